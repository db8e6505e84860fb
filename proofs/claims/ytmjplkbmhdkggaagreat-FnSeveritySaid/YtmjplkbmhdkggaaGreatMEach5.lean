/- The program's visit of all keys, as it is called. No conditions. -/
import Derived.Laws.EntriesVeiled
import Derived.Laws.AppendOwnNone
import Derived.Deep.RegionHeld3
import Derived.Deep.AppendLies
import Derived.Test.YtmjplkbmhdkggaaGreatEach4
import Derived.Test.YtmjplkbmhdkggaaGreatMFalse
import Derived.Test.YtmjplkbmhdkggaaGreatMLib
import Derived.Test.YtmjplkbmhdkggaaGreatMTable
import Derived.Test.YtmjplkbmhdkggaaGreatMStops
import Derived.Test.YtmjplkbmhdkggaaGreatMShelf0
namespace Go.Proofs.YtmjplkbmhdkggaaGreat
open Go.RowKit
set_option linter.unusedVariables false
set_option linter.unusedSimpArgs false
theorem neqNilS (w : World) : Sem.run Tryz.prog (binOp .neq 44 (.slice none 0 0) (.slice none 0 0)) w = .ok (.bool false) w := by kernel_rfl
theorem heap_alloc_at (w : World) (o : Obj) (k : Nat) : (w.alloc o).heap[k]? = if k = w.heap.size then some o else w.heap[k]? := by
 show (w.heap.push o)[k]? = _
 rw [Array.getElem?_push]
/-- The blocks as they are made, one by one. -/
def ekAt (N : Nat) : EK := ⟨N + 1 + 1 + 1 + 1 + 1, N, N + 1 + 1 + 1, N + 1, N + 1 + 1, N + 1 + 1 + 1 + 1 + 1 + 1⟩
theorem es_make {σ : Type} {Inv : σ → (Nat → Prop) → World → Prop} {F0 : Nat → Prop} {s0 : σ} (m : Mk) (w : World) (fv av vv : Value) (Tm Tf Ta Tv Tk Tc : TypeId)
  (V : ∀ s F w w', Inv s F w → w.heap.size ≤ w'.heap.size → (∀ b, F b → w'.heap[b]? = w.heap[b]?) → Inv s F w') (hl : ∀ b, F0 b → b < w.heap.size) (hI : Inv s0 F0 w) :
  ES m w F0 Inv (ekAt w.heap.size) fv av vv s0 F0 (((((((w.alloc (.cells #[.int .i64 m.c, .int .i64 m.d, .int .i64 m.s, .int .i64 m.e, .int .i64 m.l] Tm)).alloc (.cells #[fv] Tf)).alloc (.cells #[av] Ta)).alloc (.cells #[vv] Tv)).alloc (.cells #[] 2)).alloc (.cells #[.slice (some ⟨w.heap.size + 1 + 1 + 1 + 1, 0, none⟩) 0 0] Tk)).alloc (.cells #[cutV (ekAt w.heap.size)] Tc)) [] (.slice (some ⟨w.heap.size + 1 + 1 + 1 + 1, 0, none⟩) 0 0) := by
 have hb : ∀ (o1 o2 o3 o4 o5 o6 o7 : Obj), Below w.heap.size w (((((((w.alloc o1).alloc o2).alloc o3).alloc o4).alloc o5).alloc o6).alloc o7) := fun _ _ _ _ _ _ _ => by
  repeat (first | exact Below.refl _ _ | refine Below.alloc ?_ (by simp; try omega) _)
 refine ⟨Chg.of_below (hb _ _ _ _ _ _ _), fun b h => .inl h, V _ _ _ _ hI (hb _ _ _ _ _ _ _).size (fun b h => (hb _ _ _ _ _ _ _).block b (hl b h)), fun b h => Nat.lt_of_lt_of_le (hl b h) (hb _ _ _ _ _ _ _).size, ?_, ?_, ⟨Tm, ?_⟩, ⟨Tv, ?_⟩, ⟨Tf, ?_⟩, ⟨Ta, ?_⟩, ⟨Tc, ?_⟩, ⟨Tk, ?_⟩, ?_, ?_⟩
 ·intro b h
  simp only [EK.has, ekAt] at h
  simp only [World.size_alloc]
  refine ⟨by omega, by omega, fun hf => by have := hl b hf; omega⟩
 ·simp only [ekAt]; omega
 ·simp only [ekAt, heap_alloc_at, World.size_alloc]; (repeat rw [if_neg (by omega)]); simp
 ·simp only [ekAt, heap_alloc_at, World.size_alloc]; simp
 ·simp only [ekAt, heap_alloc_at, World.size_alloc]; simp
 ·simp only [ekAt, heap_alloc_at, World.size_alloc]; simp
 ·simp only [heap_alloc_at, World.size_alloc]; simp [ekAt]
 ·simp only [ekAt, heap_alloc_at, World.size_alloc]; simp
 ·refine ⟨rfl, .inr ⟨w.heap.size + 1 + 1 + 1 + 1, 0, #[], rfl, by omega, ?_, Nat.le_refl _, Nat.zero_le _, rfl, rfl⟩⟩
  simp only [heap_alloc_at, World.size_alloc]; simp
 ·intro g hg
  simp only [Value.ownBlock, Option.some.injEq] at hg
  subst hg
  refine ⟨fun hf => by have := hl _ hf; omega, fun h => ?_⟩
  simp only [EK.has, ekAt] at h
  omega
section
variable {σ : Type} {m : Mk} {w0 : World} {F0 : Nat → Prop} {f : FuncId} {caps : Array Value} {step : σ → List Int → σ × Bool} {s0 : σ} {L : List (List Int)} {Inv : σ → (Nat → Prop) → World → Prop} {o : EK} {fv av : Value} {A : Nat → Int → Bool} {fr : List Int}
set_option maxRecDepth 100000 in
theorem eachKey_any (hm : m.ok = true) (w : World) (V : VisOk m.c.toNat w F0 f caps step s0 (genF m A [] false m.c.toNat []) Inv) (hA : AOk m w F0 av A) (hI : Inv s0 F0 w) :
  Calls Tryz.prog 94 #[.agg #[.int .i64 m.c, .int .i64 m.d, .int .i64 m.s, .int .i64 m.e, .int .i64 m.l], .slice none 0 0, av, .func (.func f) #[] caps] w
   (fun e w' => ∃ F', Inv (runL step s0 (genF m A [] false m.c.toNat [])).1 F' w' ∧ Chg F0 w w' ∧ (∀ b, F' b → F0 b ∨ w.heap.size ≤ b) ∧ e = .returned undef) := by
 have hS := neqNilS
 have hmk := Mk.ok_iff.1 hm
 have hl : (([] : List Int).length : Int) + m.c.toNat = m.c := by simp; omega
 have Hl := Lib.hid hl; clear hl hmk
 have HA := Lib.hid hA
 rcases hA with ⟨rfl, hA1⟩ | ⟨fa, ac, rfl, hen, hcl⟩
 ·clear hA1
  have hES := es_make (σ := σ) m w (.slice none 0 0) .nilFunc (.func (.func f) #[] caps) 31 44 153 99 44 154 V.keep (V.lt _ _ _ hI) hI
  have HES := Lib.hid hES; clear hES
  have HV := Lib.hid V; clear V hI
  go_enter Tryz.func94, Tryz.ntmps94
  go_wp2_with fail
  refine (cut_free (fr := []) hm HV.out HA.out m.c.toNat s0 F0 _ [] _ [] [] Hl.out (fun k hk => by simp at hk) (by simp) rfl HES.out).mono ?_
  rintro e w' ⟨F', kv', rfl, hE⟩
  have HE := Lib.hid hE; clear hE
  go_wp2_with fail
  go_end0
  exact ⟨F', HE.out.inv, HE.out.chg, HE.out.sub, rfl⟩
 ·clear hcl
  have hES := es_make (σ := σ) m w (.slice none 0 0) (.func (.func fa) #[] ac) (.func (.func f) #[] caps) 31 44 153 99 44 154 V.keep (V.lt _ _ _ hI) hI
  have HES := Lib.hid hES; clear hES
  have HV := Lib.hid V; clear V hI hen
  go_enter Tryz.func94, Tryz.ntmps94
  go_wp2_with fail
  refine (cut_free (fr := []) hm HV.out HA.out m.c.toNat s0 F0 _ [] _ [] [] Hl.out (fun k hk => by simp at hk) (by simp) rfl HES.out).mono ?_
  rintro e w' ⟨F', kv', rfl, hE⟩
  have HE := Lib.hid hE; clear hE
  go_wp2_with fail
  go_end0
  exact ⟨F', HE.out.inv, HE.out.chg, HE.out.sub, rfl⟩
end
theorem fit_run {m : Mk} {l : List Int} {k : Nat} {r : Int} (hr : (runAt l k : Int) = r) (h : m.e < r) : fitAt m l k = false := by
 unfold fitAt; rw [hr, decide_eq_false (by omega)]; rfl
theorem fit_step {m : Mk} {l : List Int} {k : Nat} {q : Int} (hq : absI (geti l k - geti l (k - 1)) = q) (h0 : 0 < k) (h : m.s < q) : fitAt m l k = false := by
 unfold fitAt; rw [hq]
 have h1 : (k == 0) = false := by simp; omega
 rw [h1, decide_eq_false (show ¬ q ≤ m.s by omega)]; simp
theorem fit_ok {m : Mk} {l : List Int} {k : Nat} {r : Int} (hr : (runAt l k : Int) = r) (h : ¬ m.e < r) (hs : k = 0 ∨ ¬ m.s < absI (geti l k - geti l (k - 1))) : fitAt m l k = true := by
 unfold fitAt; rw [hr, decide_eq_true (show r ≤ m.e by omega), Bool.true_and]
 rcases hs with h | h
 ·subst h; rfl
 ·rw [decide_eq_true (show absI (geti l k - geti l (k - 1)) ≤ m.s by omega)]; simp
theorem begins_not {m : Mk} {l : List Int} {k : Nat} (h : k < l.length) (hf : fitAt m l k = false) : begins m l = false := by
 rw [← Bool.not_eq_true, begins_iff]; intro hc; rw [hc k h] at hf; cases hf
set_option maxRecDepth 100000 in
theorem l02Begins_any {S : Nat → Prop} (m : Mk) (v : Value) (l : List Int) (W : World) (h : V1 S W v l) (hlen : l.length ≤ 1000) (hrange : ∀ k, k < l.length → 0 ≤ geti l k ∧ geti l k ≤ 7) :
  Calls Tryz.prog 176 #[.agg #[.int .i64 m.c, .int .i64 m.d, .int .i64 m.s, .int .i64 m.e, .int .i64 m.l], v] W fun e' w' => e' = .returned (.bool (begins m l)) ∧ Below W.heap.size W w' := by
 have hV := h
 have Hrange := Lib.hid hrange; clear hrange
 obtain ⟨a, c, rfl, hmx⟩ := h.form
 obtain ⟨W1, hW1, hB01, hz01, HZ01, hc01, hh01⟩ := box_facts W #[.int .i64 m.c, .int .i64 m.d, .int .i64 m.s, .int .i64 m.e, .int .i64 m.l] 31
 have hV1 := hV.below hB01
 go_enter Tryz.func176, Tryz.ntmps176
 go_wp2_with fail
 rw [← hW1]
 have HW1 := Lib.hid hW1; clear hW1
 clear hh01
 go_wp2_with fail
 go_loopw [5, 6] (fun ru i wr => ∃ k n : Nat, k ≤ l.length ∧ i = .int .i64 (k : Int) ∧ ru = .int .i64 (lastRun l k : Int) ∧ (∀ j, j < k → fitAt m l j = true) ∧ wr = W1.drewN n) (fun _ i _ => l.length - (intOf i).toNat)
 case atStart => exact ⟨0, 0, Nat.zero_le _, rfl, rfl, fun j hj => by omega, rfl⟩
 case round =>
  obtain ⟨k, n, hk, rfl, rfl, hpre, rfl⟩ := hrel
  have Hpre := Lib.hid hpre; clear hpre
  have hlr := lastRun_le l k
  by_cases hkk : k < l.length
  ·obtain ⟨b1, off1, rfl, _, hc1⟩ := hV1.cell hkk
   have hr1 := Hrange.out _ hkk
   by_cases h0 : k = 0
   ·have hru : runAt l k = lastRun l k + 1 := runAt_last (.inl h0)
    have hd : decide (0 < k) = false := by simp [h0]
    have H0 := Lib.hid h0; clear h0
    have hru' : (runAt l k : Int) = (lastRun l k : Int) + 1 := by rw [hru]; rfl
    have Hru := Lib.hid hru; clear hru
    have Hru' := Lib.hid hru'; clear hru'
    by_cases hbad : m.e < (lastRun l k : Int) + 1
    ·have hfin := begins_not hkk (fit_run Hru'.out hbad)
     have Hf := Lib.hid hfin; clear hfin
     generalize hLR : lastRun l k = lr at *
     have HLR := Lib.hid hLR; clear hLR
     have hdd : decide (m.e < (lr : Int) + 1) = true := decide_eq_true hbad
     go_wp2_with fail
     go_quiet (fail)
     go_wp2_with fail
     go_quiet (fail)
     go_wp2_with fail
     go_ret
     exact ⟨ret_bool Hf.out.symm, by repeat' first | refine below_drewN ?_ _ | exact hB01⟩
    ·have hfit := fit_ok Hru'.out hbad (.inl H0.out)
     have Hfit := Lib.hid hfit; clear hfit
     generalize hLR : lastRun l k = lr at *
     have HLR := Lib.hid hLR; clear hLR
     have hdd : decide (m.e < (lr : Int) + 1) = false := decide_eq_false hbad
     go_wp2_with fail
     go_quiet (fail)
     go_wp2_with fail
     go_quiet (fail)
     go_wp2_with fail
     go_roundw
     case rel => exact ⟨k + 1, _, by omega, by go_num, by rw [show lastRun l (k + 1) = runAt l k from rfl, Hru.out]; go_num, fun j hj => by
      by_cases e : j = k
      ·subst e; exact Hfit.out
      ·exact Hpre.out j (by omega), by first | rfl | simp only [World.drewN_drewN]⟩
     case measure => simp [intOf]; omega
   ·have h1 : 0 < k := by omega
    obtain ⟨b2, off2, e3, _, hc2⟩ := hV1.cell (k := k - 1) (by omega)
    simp only [Option.some.injEq, Addr.mk.injEq, and_true] at e3
    obtain ⟨rfl, rfl⟩ := e3
    have hr2 := Hrange.out (k - 1) (by omega)
    obtain ⟨q, hq⟩ : ∃ q, absI (geti l k - geti l (k - 1)) = q := ⟨_, rfl⟩
    have hw : IntKind.i64.wrap (geti l k - geti l (k - 1)) = geti l k - geti l (k - 1) := IntWalk.i64_in _ (by omega)
    have Hq := Lib.hid hq; clear hq
    clear h0
    by_cases he : geti l k = geti l (k - 1)
    ·have e4 : (geti l k != geti l (k - 1)) = false := by simp [he]
     have hru : runAt l k = lastRun l k + 1 := runAt_last (.inr he)
     have hru' : (runAt l k : Int) = (lastRun l k : Int) + 1 := by rw [hru]; rfl
     have Hru := Lib.hid hru; clear hru
     have Hru' := Lib.hid hru'; clear hru'
     have He := Lib.hid he; clear he
     by_cases hbad : m.e < (lastRun l k : Int) + 1
     ·have hfin := begins_not hkk (fit_run Hru'.out hbad)
      have Hf := Lib.hid hfin; clear hfin
      generalize hLR : lastRun l k = lr at *
      have HLR := Lib.hid hLR; clear hLR
      have hdd : decide (m.e < (lr : Int) + 1) = true := decide_eq_true hbad
      go_wp2_with fail
      go_quiet (fail)
      go_wp2_with fail
      go_quiet (fail)
      go_wp2_with fail
      go_ret
      exact ⟨ret_bool Hf.out.symm, by repeat' first | refine below_drewN ?_ _ | exact hB01⟩
     ·by_cases hstep : m.s < q
      ·have hfin := begins_not hkk (fit_step Hq.out h1 hstep)
       have Hf := Lib.hid hfin; clear hfin
       generalize hLR : lastRun l k = lr at *
       have HLR := Lib.hid hLR; clear hLR
       have hdd : decide (m.e < (lr : Int) + 1) = false := decide_eq_false hbad
       go_wp2_with fail
       go_quiet (fail)
       go_wp2_with fail
       go_quiet ((go_at_call 199; first | exact quiet_same (l01Abs_b _ _ _ Hq.out (by omega)) | exact quiet_same0 (l01Abs_b _ _ _ Hq.out (by omega))))
       go_wp2_with fail
       go_ret
       exact ⟨ret_bool Hf.out.symm, by repeat' first | refine below_drewN ?_ _ | exact hB01⟩
      ·have hfit := fit_ok Hru'.out hbad (.inr (by rw [Hq.out]; exact hstep))
       have Hfit := Lib.hid hfit; clear hfit
       generalize hLR : lastRun l k = lr at *
       have HLR := Lib.hid hLR; clear hLR
       have hdd : decide (m.e < (lr : Int) + 1) = false := decide_eq_false hbad
       have hds : decide (m.s < q) = false := decide_eq_false hstep
       go_wp2_with fail
       go_quiet (fail)
       go_wp2_with fail
       go_quiet ((go_at_call 199; first | exact quiet_same (l01Abs_b _ _ _ Hq.out (by omega)) | exact quiet_same0 (l01Abs_b _ _ _ Hq.out (by omega))))
       go_wp2_with fail
       go_roundw
       case rel => exact ⟨k + 1, _, by omega, by go_num, by rw [show lastRun l (k + 1) = runAt l k from rfl, Hru.out]; go_num, fun j hj => by
        by_cases e : j = k
        ·subst e; exact Hfit.out
        ·exact Hpre.out j (by omega), by first | rfl | simp only [World.drewN_drewN]⟩
       case measure => simp [intOf]; omega
    ·have e4 : (geti l k != geti l (k - 1)) = true := by simp [he]
     have hru : runAt l k = 1 := runAt_new h1 he
     have hru' : (runAt l k : Int) = 1 := by rw [hru]; rfl
     have Hru := Lib.hid hru; clear hru
     have Hru' := Lib.hid hru'; clear hru'
     have He := Lib.hid he; clear he
     by_cases hbad : m.e < 1
     ·have hfin := begins_not hkk (fit_run Hru'.out hbad)
      have Hf := Lib.hid hfin; clear hfin
      generalize hLR : lastRun l k = lr at *
      have HLR := Lib.hid hLR; clear hLR
      have hdd : decide (m.e < 1) = true := decide_eq_true hbad
      go_wp2_with fail
      go_quiet (fail)
      go_wp2_with fail
      go_quiet (fail)
      go_wp2_with fail
      go_ret
      exact ⟨ret_bool Hf.out.symm, by repeat' first | refine below_drewN ?_ _ | exact hB01⟩
     ·by_cases hstep : m.s < q
      ·have hfin := begins_not hkk (fit_step Hq.out h1 hstep)
       have Hf := Lib.hid hfin; clear hfin
       generalize hLR : lastRun l k = lr at *
       have HLR := Lib.hid hLR; clear hLR
       have hdd : decide (m.e < 1) = false := decide_eq_false hbad
       go_wp2_with fail
       go_quiet (fail)
       go_wp2_with fail
       go_quiet ((go_at_call 199; first | exact quiet_same (l01Abs_b _ _ _ Hq.out (by omega)) | exact quiet_same0 (l01Abs_b _ _ _ Hq.out (by omega))))
       go_wp2_with fail
       go_ret
       exact ⟨ret_bool Hf.out.symm, by repeat' first | refine below_drewN ?_ _ | exact hB01⟩
      ·have hfit := fit_ok Hru'.out hbad (.inr (by rw [Hq.out]; exact hstep))
       have Hfit := Lib.hid hfit; clear hfit
       generalize hLR : lastRun l k = lr at *
       have HLR := Lib.hid hLR; clear hLR
       have hdd : decide (m.e < 1) = false := decide_eq_false hbad
       have hds : decide (m.s < q) = false := decide_eq_false hstep
       go_wp2_with fail
       go_quiet (fail)
       go_wp2_with fail
       go_quiet ((go_at_call 199; first | exact quiet_same (l01Abs_b _ _ _ Hq.out (by omega)) | exact quiet_same0 (l01Abs_b _ _ _ Hq.out (by omega))))
       go_wp2_with fail
       go_roundw
       case rel => exact ⟨k + 1, _, by omega, by go_num, by rw [show lastRun l (k + 1) = runAt l k from rfl, Hru.out]; rfl, fun j hj => by
        by_cases e : j = k
        ·subst e; exact Hfit.out
        ·exact Hpre.out j (by omega), by first | rfl | simp only [World.drewN_drewN]⟩
       case measure => simp [intOf]; omega
  ·obtain rfl : k = l.length := by omega
   have hfin : begins m l = true := begins_iff.2 Hpre.out
   have Hf := Lib.hid hfin; clear hfin
   generalize hLR : lastRun l l.length = lr at *
   have HLR := Lib.hid hLR; clear hLR
   go_wp2_with fail
   go_ret
   exact ⟨ret_bool Hf.out.symm, by repeat' first | refine below_drewN ?_ _ | exact hB01⟩
theorem l02Begins_b {S : Nat → Prop} (m : Mk) (v : Value) (l : List Int) (W : World) (r : Bool) (hr : begins m l = r) (h : V1 S W v l) (hlen : l.length ≤ 1000) (hrange : ∀ k, k < l.length → 0 ≤ geti l k ∧ geti l k ≤ 7) :
  Calls Tryz.prog 176 #[.agg #[.int .i64 m.c, .int .i64 m.d, .int .i64 m.s, .int .i64 m.e, .int .i64 m.l], v] W fun e' w' => e' = .returned (.bool r) ∧ Below W.heap.size W w' := by subst hr; exact l02Begins_any m v l W h hlen hrange
theorem V1.pv {S : Nat → Prop} {w : World} {v : Value} {l : List Int} (h : V1 S w v l) (hn : l ≠ []) : PV v := by
 obtain ⟨a, c, rfl, _, _, h⟩ := h
 obtain ⟨b, off, ev, rfl, _⟩ := h 0 (by cases l with | nil => exact absurd rfl hn | cons x xs => simp)
 exact .inr ⟨_, _, _, _, rfl⟩
theorem own_pv {w : World} {B : Nat} {e : TypeId} {v : Value} {n : Nat} {xs : List Value} (h : w.ownsRow B e 1 v n xs) : PV v := by
 rcases h.2 with ⟨rfl, h0⟩ | ⟨g, cap, cur, rfl, _⟩
 ·exact .inl rfl
 ·exact .inr ⟨_, _, _, _, rfl⟩
def OwnPost (W : World) (l : List Int) (e' : Ending) (w' : World) : Prop := ∃ v', e' = .returned v' ∧ w'.ownsRow W.heap.size 2 1 v' l.length (l.map (Value.int .i64)) ∧ Below W.heap.size W w'
theorem l01Own_any {S : Nat → Prop} (v : Value) (l : List Int) (W : World) (h : V1 S W v l) (hp : l = [] → PV v) (hlen : l.length ≤ 1000000) :
  Calls Tryz.prog 77 #[v] W (OwnPost W l) := by
 obtain ⟨i0, hi, hz0, hz1, hz2⟩ := info_parts inf_int
 have hV := h
 obtain ⟨a, c, rfl, hm⟩ := h.form
 by_cases hn : l = []
 ·subst hn
  rcases hp rfl with e | ⟨b, off, n, c', e⟩
  ·simp only [List.length_nil, Value.slice.injEq] at e
   obtain ⟨rfl, _, rfl⟩ := e
   have hown0 := own_lit0 W W.heap.size 2 1 (Nat.le_refl _)
   go_enter Tryz.func77, Tryz.ntmps77
   go_wp2_with (at_builtin; refine wpList_append_own_none rfl _ _ 44 rfl W.heap.size 2 i0 1 Tryz.underlying44 hi _ _ _ rfl hown0 rfl ?_)
   go_ret
   exact ⟨_, rfl, hown0, (Below.refl _ _).alloc (Nat.le_refl _) _⟩
  ·simp only [List.length_nil, Value.slice.injEq] at e
   obtain ⟨rfl, rfl, rfl⟩ := e
   have hown0 := own_lit0 W W.heap.size 2 1 (Nat.le_refl _)
   go_enter Tryz.func77, Tryz.ntmps77
   go_wp2_with (at_builtin; refine wp_app rfl _ _ 44 rfl W.heap.size 2 (.int .i64 0) 1 8 Tryz.underlying44 inf_int rfl (by omega) _ _ _ rfl hown0 _ _ _ [] rfl rfl (fun j u hj => by simp at hj) (by simp) (by unfold maxLen; omega) (by omega) (by simp) ?_; intro v1 w1 hown1 hgrow1 hblk1)
   go_ret
   exact ⟨_, rfl, hown1, ((Below.refl _ _).alloc (Nat.le_refl _) _).grown hgrow1 (by simp) (fun k hk => by have := hown0.lt k hk; exact this.1)⟩
 ·obtain ⟨b, off, rfl, _, _⟩ := hV.cell (k := 0) (by cases l with | nil => exact absurd rfl hn | cons x xs => simp)
  have hown0 := own_lit0 W W.heap.size 2 1 (Nat.le_refl _)
  have hV2 := hV.below ((Below.refl W.heap.size W).alloc (Nat.le_refl _) (.cells #[] 2))
  have hnews : ∀ j u, (l.map (Value.int .i64))[j]? = some u → (W.alloc (.cells #[] 2)).cell? ((⟨b, off, none⟩ : Addr).add j) = some u := by
   intro j u hj
   have hjl : j < l.length := by
    rw [List.getElem?_map] at hj
    by_cases hjl : j < l.length
    ·exact hjl
    ·rw [List.getElem?_eq_none (by omega)] at hj; cases hj
   obtain ⟨b', off', e, _, hc⟩ := hV2.cell hjl
   simp only [Option.some.injEq, Addr.mk.injEq, and_true] at e
   obtain ⟨rfl, rfl⟩ := e
   rw [List.getElem?_map, List.getElem?_eq_getElem hjl] at hj
   have hadd : (⟨b, off, none⟩ : Addr).add j = ⟨b, off + j, none⟩ := by unfold Addr.add; split <;> simp_all
   rw [hadd, hc, ← hj, geti_eq hjl]; rfl
  have Hnews := Lib.hid hnews; clear hnews
  have Hn := Lib.hid hn; clear hn hp
  go_enter Tryz.func77, Tryz.ntmps77
  go_wp2_with (at_builtin; refine wp_app rfl _ _ 44 rfl W.heap.size 2 (.int .i64 0) 1 8 Tryz.underlying44 inf_int rfl (by omega) _ _ _ rfl hown0 _ _ _ (l.map (Value.int .i64)) rfl (by simp) Hnews.out (by intro u hu; simp at hu; obtain ⟨x, _, rfl⟩ := hu; rfl) (by unfold maxLen; omega) (by omega) (by simp) ?_; intro v1 w1 hown1 hgrow1 hblk1)
  go_ret
  refine ⟨_, rfl, ?_, ((Below.refl _ _).alloc (Nat.le_refl _) _).grown hgrow1 (by simp) (fun k hk => by have := hown0.lt k hk; exact this.1)⟩
  simpa using hown1
theorem mkB_keep {b B : Nat} {w0 w w' : World} {c0 c1 c2 c3 c4 : Value} (hbB : b < B) (h : w.cell? ⟨b, 0, none⟩ = some c0 ∧ w.cell? ⟨b, 1, none⟩ = some c1 ∧ w.cell? ⟨b, 2, none⟩ = some c2 ∧ w.cell? ⟨b, 3, none⟩ = some c3 ∧ w.cell? ⟨b, 4, none⟩ = some c4 ∧ Below B w0 w) (hb : Below B w w') :
  w'.cell? ⟨b, 0, none⟩ = some c0 ∧ w'.cell? ⟨b, 1, none⟩ = some c1 ∧ w'.cell? ⟨b, 2, none⟩ = some c2 ∧ w'.cell? ⟨b, 3, none⟩ = some c3 ∧ w'.cell? ⟨b, 4, none⟩ = some c4 ∧ Below B w0 w' := by
 obtain ⟨h0, h1, h2, h3, h4, h5⟩ := h
 have hk := hb.block b hbB
 exact ⟨cell_keep h0 hk, cell_keep h1 hk, cell_keep h2 hk, cell_keep h3 hk, cell_keep h4 hk, h5.trans hb⟩
section
variable {b : Nat} {w0 w w' : World} {c0 c1 c2 c3 c4 : Value}
theorem mkB_call (hbB : b < w0.heap.size) (h : w.cell? ⟨b, 0, none⟩ = some c0 ∧ w.cell? ⟨b, 1, none⟩ = some c1 ∧ w.cell? ⟨b, 2, none⟩ = some c2 ∧ w.cell? ⟨b, 3, none⟩ = some c3 ∧ w.cell? ⟨b, 4, none⟩ = some c4 ∧ Below w0.heap.size w0 w) (hb : Below w.heap.size w w') :
  w'.cell? ⟨b, 0, none⟩ = some c0 ∧ w'.cell? ⟨b, 1, none⟩ = some c1 ∧ w'.cell? ⟨b, 2, none⟩ = some c2 ∧ w'.cell? ⟨b, 3, none⟩ = some c3 ∧ w'.cell? ⟨b, 4, none⟩ = some c4 ∧ Below w0.heap.size w0 w' :=
 mkB_keep hbB h (hb.mono h.2.2.2.2.2.size)
theorem mkB_alloc (hbB : b < w0.heap.size) (h : w.cell? ⟨b, 0, none⟩ = some c0 ∧ w.cell? ⟨b, 1, none⟩ = some c1 ∧ w.cell? ⟨b, 2, none⟩ = some c2 ∧ w.cell? ⟨b, 3, none⟩ = some c3 ∧ w.cell? ⟨b, 4, none⟩ = some c4 ∧ Below w0.heap.size w0 w) (o : Obj) :
  (w.alloc o).cell? ⟨b, 0, none⟩ = some c0 ∧ (w.alloc o).cell? ⟨b, 1, none⟩ = some c1 ∧ (w.alloc o).cell? ⟨b, 2, none⟩ = some c2 ∧ (w.alloc o).cell? ⟨b, 3, none⟩ = some c3 ∧ (w.alloc o).cell? ⟨b, 4, none⟩ = some c4 ∧ Below w0.heap.size w0 (w.alloc o) :=
 mkB_call hbB h ((Below.refl _ _).alloc (Nat.le_refl _) _)
theorem mkB_grown {ob : Option Nat} (hbB : b < w0.heap.size) (h : w.cell? ⟨b, 0, none⟩ = some c0 ∧ w.cell? ⟨b, 1, none⟩ = some c1 ∧ w.cell? ⟨b, 2, none⟩ = some c2 ∧ w.cell? ⟨b, 3, none⟩ = some c3 ∧ w.cell? ⟨b, 4, none⟩ = some c4 ∧ Below w0.heap.size w0 w) (hg : w.grownBy w' ob) (ho : ∀ k, ob = some k → w0.heap.size ≤ k) :
  w'.cell? ⟨b, 0, none⟩ = some c0 ∧ w'.cell? ⟨b, 1, none⟩ = some c1 ∧ w'.cell? ⟨b, 2, none⟩ = some c2 ∧ w'.cell? ⟨b, 3, none⟩ = some c3 ∧ w'.cell? ⟨b, 4, none⟩ = some c4 ∧ Below w0.heap.size w0 w' :=
 mkB_keep hbB h ((Below.refl _ _).grown hg h.2.2.2.2.2.size ho)
theorem mkB_below (h : w.cell? ⟨b, 0, none⟩ = some c0 ∧ w.cell? ⟨b, 1, none⟩ = some c1 ∧ w.cell? ⟨b, 2, none⟩ = some c2 ∧ w.cell? ⟨b, 3, none⟩ = some c3 ∧ w.cell? ⟨b, 4, none⟩ = some c4 ∧ Below w0.heap.size w0 w) : Below w0.heap.size w0 w := h.2.2.2.2.2
theorem mkB_size (h : w.cell? ⟨b, 0, none⟩ = some c0 ∧ w.cell? ⟨b, 1, none⟩ = some c1 ∧ w.cell? ⟨b, 2, none⟩ = some c2 ∧ w.cell? ⟨b, 3, none⟩ = some c3 ∧ w.cell? ⟨b, 4, none⟩ = some c4 ∧ Below w0.heap.size w0 w) : w0.heap.size ≤ w.heap.size := h.2.2.2.2.2.size
end
theorem news_old {w w' : World} {cs : Array Value} {T : TypeId} (hb : Below (w.alloc (.cells cs T)).drew.heap.size (w.alloc (.cells cs T)).drew w') : ∀ j u, cs.toList[j]? = some u → w'.cell? ((⟨w.heap.size, 0, none⟩ : Addr).add j) = some u :=
 World.news_of_block (heap_below (w := (w.alloc (.cells cs T)).drew) (heap_alloc_new w _) hb (by simp))
theorem range_snoc {l : List Int} {x : Nat} (h : ∀ k, k < l.length → 0 ≤ geti l k ∧ geti l k ≤ 7) (hx : x < 8) : ∀ k, k < (l ++ [(x : Int)]).length → 0 ≤ geti (l ++ [(x : Int)]) k ∧ geti (l ++ [(x : Int)]) k ≤ 7 := by
 intro k hk
 by_cases hkl : k < l.length
 ·rw [geti_append hkl]; exact h k hkl
 ·rw [show k = l.length from by simp at hk; omega, geti_snoc]; omega
/-- All keys whose cuts are allowed. -/
def keysA (m : Mk) (A : Nat → Int → Bool) : List (List Int) := genF m A [] false m.c.toNat []
theorem keysA_all (m : Mk) : keysA m (fun _ _ => true) = keysOf m := genF_free m [] _ _
theorem isSys_parts {m : Mk} {t : List (List Int)} (h : isSys m t = true) : m.ok = true ∧ isTab t = true ∧ upAll (doorOpen t) (getl t 0).length 0 = true := by
 simp only [isSys, Bool.and_eq_true] at h; exact ⟨h.1, h.2.1, h.2.2⟩
theorem one1_keep {b b' off : Nat} {w0 w w' : World} {cs : Array Value} {v : Value} (hb1 : b < w0.heap.size ∧ b' < w0.heap.size) (h : (∀ o, w.cell? ⟨b, o, none⟩ = cs[o]?) ∧ w.cell? ⟨b', off, none⟩ = some v ∧ Below w0.heap.size w0 w) (hb : Below w.heap.size w w') :
  (∀ o, w'.cell? ⟨b, o, none⟩ = cs[o]?) ∧ w'.cell? ⟨b', off, none⟩ = some v ∧ Below w0.heap.size w0 w' := by
 obtain ⟨h1, h2, h3⟩ := h
 have := h3.size
 exact ⟨fun o => by rw [(bcell hb).1 _ _ (by omega), h1], by rw [(bcell hb).1 _ _ (by omega), h2], h3.trans (hb.mono h3.size)⟩
theorem one1_below {b b' off : Nat} {w0 w : World} {cs : Array Value} {v : Value} (h : (∀ o, w.cell? ⟨b, o, none⟩ = cs[o]?) ∧ w.cell? ⟨b', off, none⟩ = some v ∧ Below w0.heap.size w0 w) : Below w0.heap.size w0 w := h.2.2
def allKeys (m : Mk) (cuts : List (List Int)) : Bool := cuts.all (isKeyB m)
theorem allKeys_step {m : Mk} {l : List (List Int)} {k : Nat} (h : k < l.length) : allKeys m (l.drop k) = (isKeyB m (getl l k) && allKeys m (l.drop (k + 1))) := all_stepl _ h
theorem allKeys_iff {m : Mk} {l : List (List Int)} : allKeys m l = true ↔ ∀ k, k < l.length → isKeyB m (getl l k) = true := by
 simp only [allKeys, List.all_eq_true]
 constructor
 ·intro h k hk; exact h _ (getl_mem hk)
 ·intro h x hx
  obtain ⟨k, hk, rfl⟩ := List.getElem_of_mem hx
  have := h k hk
  rwa [getl_eq hk] at this
theorem any_notKey (m : Mk) (l : List (List Int)) : (l.any fun x => !isKeyB m x) = !allKeys m l := by
 unfold allKeys; induction l with
 | nil => rfl
 | cons x l ih => simp [ih]
theorem enters_areKeys : Enters 185 := fun args w => by kernel_rfl
theorem areKeys1_any {S : Nat → Prop} (m : Mk) (hm : m.ok = true) (v : Value) (l : List Int) (b : Nat) (W : World) (h : V1 S W v l) (hc : ∀ o, W.cell? ⟨b, o, none⟩ = (#[.int .i64 m.c, .int .i64 m.d, .int .i64 m.s, .int .i64 m.e, .int .i64 m.l] : Array Value)[o]?) :
  Calls Tryz.prog 185 #[v, .pointer (some ⟨b, 0, none⟩)] W fun e' w' => e' = .returned (.bool (!isKeyB m l)) ∧ Below W.heap.size W w' := by
 obtain ⟨a, c, rfl, hmx⟩ := h.form
 cases hk : isKeyB m l
 all_goals
  have Hk := Lib.hid hk; clear hk
  go_enter Tryz.func185, Tryz.ntmps185
  go_wp2_with fail
  refine (isKey_b m _ l _ _ Hk.out hm h).mono ?_
  rintro e' w' ⟨rfl, hb⟩
  clear hc
  go_wp2_with fail
  go_ret
  exact ⟨rfl, hb⟩
theorem areKeys_any {S : Nat → Prop} (m : Mk) (hm : m.ok = true) (v : Value) (ls : List (List Int)) (W : World) (h : V2 S W v ls) :
  Calls Tryz.prog 140 #[.agg #[.int .i64 m.c, .int .i64 m.d, .int .i64 m.s, .int .i64 m.e, .int .i64 m.l], v] W fun e' w' => e' = .returned (.bool (allKeys m ls)) ∧ Below W.heap.size W w' := by
 have hk := any_notKey m ls
 have Hk := Lib.hid hk; clear hk
 obtain ⟨W1, hW1, hB01, hz01, HZ01, hc01, hh01⟩ := box_facts W #[.int .i64 m.c, .int .i64 m.d, .int .i64 m.s, .int .i64 m.e, .int .i64 m.l] 31
 have hV := h.below hB01
 obtain ⟨a, c, rfl, hmx⟩ := h.form
 cases hkk : allKeys m ls
 all_goals
  have Hkk := Lib.hid hkk; clear hkk
  go_enter Tryz.func140, Tryz.ntmps140
  go_wp2_with fail
  rw [← hW1]
  refine (containsFunc_any (S := S) _ ls _ _ (fun o => !isKeyB m o) _ hV enters_areKeys ?_).mono ?_
  ·intro S2 w v2 l hb hv
   exact areKeys1_any m hm v2 l W.heap.size w hv (fun o => by rw [(bcell hb).1 _ _ hz01, hc01])
  ·rintro e' w' ⟨rfl, hb⟩
   clear hc01 hh01
   rw [Hk.out, Hkk.out]
   go_wp2_with fail
   go_ret
   exact ⟨rfl, hB01.trans (hb.mono (by omega))⟩
theorem areKeys_b {S : Nat → Prop} (m : Mk) (hm : m.ok = true) (v : Value) (ls : List (List Int)) (W : World) (r : Bool) (hr : allKeys m ls = r) (h : V2 S W v ls) :
  Calls Tryz.prog 140 #[.agg #[.int .i64 m.c, .int .i64 m.d, .int .i64 m.s, .int .i64 m.e, .int .i64 m.l], v] W fun e' w' => e' = .returned (.bool r) ∧ Below W.heap.size W w' := by subst hr; exact areKeys_any m hm v ls W h
theorem l04Keys_any {S : Nat → Prop} (m : Mk) (hm : m.ok = true) (v : Value) (ls : List (List Int)) (W : World) (h : V2 S W v ls) (hlen : ls.length ≤ 300) :
  Calls Tryz.prog 142 #[.agg #[.int .i64 m.c, .int .i64 m.d, .int .i64 m.s, .int .i64 m.e, .int .i64 m.l], v] W fun e' w' => e' = .returned (.bool (allKeys m ls)) ∧ Below W.heap.size W w' := by
 obtain ⟨W1, hW1, hB01, hz01, HZ01, hc01, hh01⟩ := box_facts W #[.int .i64 m.c, .int .i64 m.d, .int .i64 m.s, .int .i64 m.e, .int .i64 m.l] 31
 have hV := h.below hB01
 obtain ⟨a, c, rfl, hmx⟩ := h.form
 go_enter Tryz.func142, Tryz.ntmps142
 go_wp2_with fail
 rw [← hW1]
 have HW1 := Lib.hid hW1; clear hW1 hh01
 have Hc01 := Lib.hid hc01; clear hc01
 go_wp2_with fail
 go_loopw [5] (fun i wr => ∃ k : Nat, k ≤ ls.length ∧ i = .int .i64 (k : Int) ∧ allKeys m ls = allKeys m (ls.drop k) ∧ Below W1.heap.size W1 wr) (fun i _ => ls.length - (intOf i).toNat)
 case atStart => exact ⟨0, Nat.zero_le _, rfl, rfl, Below.refl _ _⟩
 case round =>
  obtain ⟨k, hk, rfl, hrem, hB⟩ := hrel
  have Hr := Lib.hid hrem; clear hrem
  have hzr := hB.size
  have hx : ∀ o, wr.cell? ⟨W.heap.size, o, none⟩ = (#[.int .i64 m.c, .int .i64 m.d, .int .i64 m.s, .int .i64 m.e, .int .i64 m.l] : Array Value)[o]? := fun o => by rw [(bcell hB).1 _ _ hz01, Hc01.out]
  by_cases hkk : k < ls.length
  ·obtain ⟨b1, off1, a1, c1, rfl, _, hc1, hr1⟩ := (hV.below hB).cell hkk
   have hbb : W.heap.size < wr.heap.size ∧ b1 < wr.heap.size := ⟨by omega, lt_of_cell hc1⟩
   have hk2 : isKeyB m (getl ls k) = decide (fault m (getl ls k) = 0) := rfl
   have Hx := Lib.hid hx
   by_cases hf : fault m (getl ls k) = 0
   ·have e1 : (fault m (getl ls k) != 0) = false := by simp [hf]
    have Hk2 := Lib.hid (hk2.trans (decide_eq_true hf)); clear hk2
    have Hf := Lib.hid hf; clear hf
    go_wp2_with fail
    go_region_held3 (fun w' => (∀ o, w'.cell? ⟨W.heap.size, o, none⟩ = (#[.int .i64 m.c, .int .i64 m.d, .int .i64 m.s, .int .i64 m.e, .int .i64 m.l] : Array Value)[o]?) ∧ w'.cell? ⟨b1, off1 + k, none⟩ = some (.slice a1 (getl ls k).length c1) ∧ Below wr.heap.size wr w')
     (first | exact one1_keep hbb (by assumption) (by assumption) | exact ⟨hx, hc1, (Below.refl _ _).drew⟩)
     (first | (go_at_call 172; refine (l02Fault_any m _ (getl ls k) _ hm (hr1.below (one1_below (by assumption)))).mono ?_; rintro e' w' ⟨rfl, hb⟩))
    have hBw := one1_below (w0 := wr) (by assumption)
    go_wp2_with fail
    go_roundw
    case rel => exact ⟨k + 1, by omega, by go_num, by rw [Hr.out, allKeys_step hkk, Hk2.out]; rfl, hB.trans (hBw.mono hzr)⟩
    case measure => simp [intOf]; omega
   ·have e1 : (fault m (getl ls k) != 0) = true := by simp [hf]
    have Hk2 := Lib.hid (hk2.trans (decide_eq_false hf)); clear hk2
    have Hf := Lib.hid hf; clear hf
    go_wp2_with fail
    go_region_held3 (fun w' => (∀ o, w'.cell? ⟨W.heap.size, o, none⟩ = (#[.int .i64 m.c, .int .i64 m.d, .int .i64 m.s, .int .i64 m.e, .int .i64 m.l] : Array Value)[o]?) ∧ w'.cell? ⟨b1, off1 + k, none⟩ = some (.slice a1 (getl ls k).length c1) ∧ Below wr.heap.size wr w')
     (first | exact one1_keep hbb (by assumption) (by assumption) | exact ⟨hx, hc1, (Below.refl _ _).drew⟩)
     (first | (go_at_call 172; refine (l02Fault_any m _ (getl ls k) _ hm (hr1.below (one1_below (by assumption)))).mono ?_; rintro e' w' ⟨rfl, hb⟩))
    have hBw := one1_below (w0 := wr) (by assumption)
    go_wp2_with fail
    go_ret
    exact ⟨ret_bool (by rw [Hr.out, allKeys_step hkk, Hk2.out]; rfl), hB01.trans ((hB.trans (hBw.mono hzr)).mono (by omega))⟩
  ·have hd : ls.drop k = [] := List.drop_of_length_le (by omega)
   have Hd := Lib.hid hd; clear hd
   go_wp2_with fail
   go_ret
   exact ⟨ret_bool (by rw [Hr.out, Hd.out]; simp [allKeys]; omega), hB01.trans (hB.mono (by omega))⟩
theorem l04Keys_b {S : Nat → Prop} (m : Mk) (hm : m.ok = true) (v : Value) (ls : List (List Int)) (W : World) (r : Bool) (hr : allKeys m ls = r) (h : V2 S W v ls) (hlen : ls.length ≤ 300) :
  Calls Tryz.prog 142 #[.agg #[.int .i64 m.c, .int .i64 m.d, .int .i64 m.s, .int .i64 m.e, .int .i64 m.l], v] W fun e' w' => e' = .returned (.bool r) ∧ Below W.heap.size W w' := by subst hr; exact l04Keys_any m hm v ls W h hlen
/-- The code of a system and partial cuts. -/
def partC (m : Mk) (t cuts : List (List Int)) : Int := if isSys m t = false then 1 else if t.length < cuts.length then 2 else if allKeys m cuts = false then 2 else 0
theorem partC_ok {m : Mk} {t cuts : List (List Int)} : partC m t cuts = 0 ↔ isSys m t = true ∧ cuts.length ≤ t.length ∧ allKeys m cuts = true := by
 unfold partC
 cases isSys m t <;> cases allKeys m cuts <;> simp <;> split <;> simp_all <;> omega
theorem fits_of {m : Mk} {t cuts : List (List Int)} (h : partC m t cuts = 0) : Fits m t cuts := by
 obtain ⟨h1, h2, h3⟩ := partC_ok.1 h
 obtain ⟨hok, htab, _⟩ := isSys_parts h1
 obtain ⟨htl, htr⟩ := isTab_iff.1 htab
 have hk := allKeys_iff.1 h3
 exact ⟨hok, htl, fun k hk => (htr k hk).1, (htr 0 (by omega)).2.1, fun k hk => (htr k hk).2.2, h2, hk, fun k hkk => (isKey_iff.1 (hk k hkk)).1, fun k hkk c hc => (isKey_iff.1 (hk k hkk)).2.1 _ (geti_mem hc)⟩
/-- The code of a system and cuts for all rows. -/
def cutC (m : Mk) (t cuts : List (List Int)) : Int := if isSys m t = false then 1 else if cuts.length ≠ t.length then 2 else if allKeys m cuts = false then 2 else 0
theorem cutC_ok {m : Mk} {t cuts : List (List Int)} : cutC m t cuts = 0 ↔ isSys m t = true ∧ cuts.length = t.length ∧ allKeys m cuts = true := by
 unfold cutC
 cases isSys m t <;> cases allKeys m cuts <;> simp
theorem cutC_part {m : Mk} {t cuts : List (List Int)} (h : cutC m t cuts = 0) : partC m t cuts = 0 := by
 obtain ⟨h1, h2, h3⟩ := cutC_ok.1 h
 exact partC_ok.2 ⟨h1, by omega, h3⟩
set_option maxRecDepth 100000 in
theorem cutsCode_any {S S' : Nat → Prop} (m : Mk) (u v : Value) (t cuts : List (List Int)) (W : World) (h : V2 S W u t) (hc : V2 S' W v cuts) :
  Calls Tryz.prog 178 #[.agg #[.int .i64 m.c, .int .i64 m.d, .int .i64 m.s, .int .i64 m.e, .int .i64 m.l, u], v] W fun e' w' => e' = .returned (.int .i64 (cutC m t cuts)) ∧ Below W.heap.size W w' := by
 obtain ⟨a, c, rfl, hmx⟩ := h.form
 obtain ⟨a', c', rfl, hmx'⟩ := hc.form
 obtain ⟨W1, hW1, hB01, hz01, HZ01, hc01, hh01⟩ := box_facts W #[.int .i64 m.c, .int .i64 m.d, .int .i64 m.s, .int .i64 m.e, .int .i64 m.l, .slice a t.length c] 33
 have hV1 := (h.below hB01).any
 have hC1 := (hc.below hB01).any
 cases hs : isSys m t
 ·have hfin : cutC m t cuts = 1 := by unfold cutC; rw [if_pos hs]
  rw [hfin]
  have Hs := Lib.hid hs; clear hs hfin
  go_enter Tryz.func178, Tryz.ntmps178
  go_wp2_with fail
  rw [← hW1]
  refine (isSystem_b m _ t _ _ Hs.out hV1).mono ?_
  rintro e' w2 ⟨rfl, hb2⟩
  clear hc01 hh01
  go_wp2_with fail
  go_ret
  exact ⟨rfl, hB01.trans (hb2.mono (by omega))⟩
 ·obtain ⟨hok, htab, _⟩ := isSys_parts hs
  have htl := (isTab_iff.1 htab).1
  clear htab
  by_cases hl : cuts.length = t.length
  ·have hd : ((cuts.length : Int) != (t.length : Int)) = false := by simp [hl]
   cases hk : allKeys m cuts
   all_goals
    first | (have hfin : cutC m t cuts = 2 := (by unfold cutC; rw [if_neg (by rw [hs]; decide), if_neg (by omega), if_pos hk])) | (have hfin : cutC m t cuts = 0 := (by unfold cutC; rw [if_neg (by rw [hs]; decide), if_neg (by omega), if_neg (by rw [hk]; decide)]))
    rw [hfin]
    have Hs := Lib.hid hs; clear hs hfin
    have Hk := Lib.hid hk; clear hk
    have Hok := Lib.hid hok; clear hok
    have Hl := Lib.hid hl; clear hl
    go_enter Tryz.func178, Tryz.ntmps178
    go_wp2_with fail
    rw [← hW1]
    refine (isSystem_b m _ t _ _ Hs.out hV1).mono ?_
    rintro e' w2 ⟨rfl, hb2⟩
    have hx2 : ∀ o, w2.cell? ⟨W.heap.size, o, none⟩ = (#[.int .i64 m.c, .int .i64 m.d, .int .i64 m.s, .int .i64 m.e, .int .i64 m.l, .slice a t.length c] : Array Value)[o]? := fun o => by rw [(bcell hb2).1 _ _ hz01, hc01]
    clear hc01 hh01
    go_wp2_with (refine (areKeys_b m Hok.out _ cuts _ _ Hk.out (hC1.below hb2)).mono ?_; rintro e' w' ⟨rfl, hb3⟩)
    go_ret
    exact ⟨rfl, hB01.trans ((hb2.trans (hb3.mono hb2.size)).mono (by omega))⟩
  ·have hfin : cutC m t cuts = 2 := by unfold cutC; rw [if_neg (by rw [hs]; decide), if_pos (by omega)]
   have hd : ((cuts.length : Int) != (t.length : Int)) = true := by simp; omega
   rw [hfin]
   have Hs := Lib.hid hs; clear hs hok hfin
   go_enter Tryz.func178, Tryz.ntmps178
   go_wp2_with fail
   rw [← hW1]
   refine (isSystem_b m _ t _ _ Hs.out hV1).mono ?_
   rintro e' w2 ⟨rfl, hb2⟩
   have hx2 : ∀ o, w2.cell? ⟨W.heap.size, o, none⟩ = (#[.int .i64 m.c, .int .i64 m.d, .int .i64 m.s, .int .i64 m.e, .int .i64 m.l, .slice a t.length c] : Array Value)[o]? := fun o => by rw [(bcell hb2).1 _ _ hz01, hc01]
   clear hc01 hh01
   go_wp2_with fail
   go_ret
   exact ⟨rfl, hB01.trans (hb2.mono (by omega))⟩
def cutsB (m : Mk) (t cuts : List (List Int)) : Bool := decide (cuts.length = t.length) && allKeys m cuts
theorem cutsB_no {m : Mk} {t cuts : List (List Int)} (hs : isSys m t = true) (hk : cutsB m t cuts = false) : cutC m t cuts = 2 := by
 unfold cutC
 rw [if_neg (by rw [hs]; decide)]
 by_cases hl : cuts.length = t.length
 ·rw [if_neg (by omega)]
  unfold cutsB at hk
  rw [decide_eq_true hl, Bool.true_and] at hk
  rw [if_pos hk]
 ·rw [if_pos hl]
theorem cutsB_yes {m : Mk} {t cuts : List (List Int)} (hs : isSys m t = true) (hk : cutsB m t cuts = true) : cutC m t cuts = 0 := by
 unfold cutsB at hk
 simp only [Bool.and_eq_true, decide_eq_true_eq] at hk
 exact cutC_ok.2 ⟨hs, hk.1, hk.2⟩
set_option maxRecDepth 100000 in
theorem l15Cuts_any {S S' : Nat → Prop} (m : Mk) (hok : m.ok = true) (u v : Value) (t cuts : List (List Int)) (W : World) (r : Bool) (hr : cutsB m t cuts = r) (h : V2 S W u t) (hc : V2 S' W v cuts) (ht : t.length ≤ 10) :
  Calls Tryz.prog 195 #[.agg #[.int .i64 m.c, .int .i64 m.d, .int .i64 m.s, .int .i64 m.e, .int .i64 m.l, u], v] W fun e' w' => e' = .returned (.bool r) ∧ Below W.heap.size W w' := by
 obtain ⟨a, c, rfl, hmx⟩ := h.form
 obtain ⟨a', c', rfl, hmx'⟩ := hc.form
 obtain ⟨W1, hW1, hB01, hz01, HZ01, hc01, hh01⟩ := box_facts W #[.int .i64 m.c, .int .i64 m.d, .int .i64 m.s, .int .i64 m.e, .int .i64 m.l, .slice a t.length c] 33
 have hC1 := (hc.below hB01).any
 unfold cutsB at hr
 by_cases hl : cuts.length = t.length
 ·have hd : ((cuts.length : Int) == (t.length : Int)) = true := by simp [hl]
  rw [decide_eq_true hl, Bool.true_and] at hr
  have Hr := Lib.hid hr; clear hr
  have Hok := Lib.hid hok; clear hok
  have hl300 : cuts.length ≤ 300 := by omega
  have Hl := Lib.hid hl; clear hl
  go_enter Tryz.func195, Tryz.ntmps195
  go_wp2_with fail
  rw [← hW1]
  refine (l04Keys_b m Hok.out _ cuts _ _ Hr.out hC1 hl300).mono ?_
  rintro e' w2 ⟨rfl, hb2⟩
  clear hc01 hh01
  go_wp2_with fail
  go_ret
  exact ⟨rfl, hB01.trans (hb2.mono (by omega))⟩
 ·have hd : ((cuts.length : Int) == (t.length : Int)) = false := by simp; omega
  rw [decide_eq_false hl, Bool.false_and] at hr
  subst hr
  go_enter Tryz.func195, Tryz.ntmps195
  go_wp2_with fail
  rw [← hW1]
  clear hc01 hh01
  go_ret
  exact ⟨rfl, hB01⟩
set_option maxRecDepth 100000 in
theorem l15Code_any {S S' : Nat → Prop} (m : Mk) (u v : Value) (t cuts : List (List Int)) (W : World) (h : V2 S W u t) (hc : V2 S' W v cuts) :
  Calls Tryz.prog 165 #[.agg #[.int .i64 m.c, .int .i64 m.d, .int .i64 m.s, .int .i64 m.e, .int .i64 m.l, u], v] W fun e' w' => e' = .returned (.int .i64 (cutC m t cuts)) ∧ Below W.heap.size W w' := by
 obtain ⟨a, c, rfl, hmx⟩ := h.form
 obtain ⟨a', c', rfl, hmx'⟩ := hc.form
 obtain ⟨W1, hW1, hB01, hz01, HZ01, hc01, hh01⟩ := box_facts W #[.int .i64 m.c, .int .i64 m.d, .int .i64 m.s, .int .i64 m.e, .int .i64 m.l, .slice a t.length c] 33
 have hV1 := (h.below hB01).any
 have hC1 := (hc.below hB01).any
 cases hs : isSys m t
 ·have hfin : cutC m t cuts = 1 := by unfold cutC; rw [if_pos hs]
  rw [hfin]
  have Hs := Lib.hid hs; clear hs hfin
  go_enter Tryz.func165, Tryz.ntmps165
  go_wp2_with fail
  rw [← hW1]
  refine (isSystemR_b m _ t _ _ Hs.out hV1).mono ?_
  rintro e' w2 ⟨rfl, hb2⟩
  clear hc01 hh01
  go_wp2_with fail
  go_ret
  exact ⟨rfl, hB01.trans (hb2.mono (by omega))⟩
 ·obtain ⟨hok, htab, _⟩ := isSys_parts hs
  have htl := (isTab_iff.1 htab).1
  clear htab
  cases hk : cutsB m t cuts
  all_goals
   first | (have hfin : cutC m t cuts = 2 := cutsB_no hs hk) | (have hfin : cutC m t cuts = 0 := cutsB_yes hs hk)
   rw [hfin]
   have Hs := Lib.hid hs; clear hs hfin
   have Hk := Lib.hid hk; clear hk
   have Hok := Lib.hid hok; clear hok
   go_enter Tryz.func165, Tryz.ntmps165
   go_wp2_with fail
   rw [← hW1]
   refine (isSystemR_b m _ t _ _ Hs.out hV1).mono ?_
   rintro e' w2 ⟨rfl, hb2⟩
   have hx2 : ∀ o, w2.cell? ⟨W.heap.size, o, none⟩ = (#[.int .i64 m.c, .int .i64 m.d, .int .i64 m.s, .int .i64 m.e, .int .i64 m.l, .slice a t.length c] : Array Value)[o]? := fun o => by rw [(bcell hb2).1 _ _ hz01, hc01]
   clear hc01 hh01
   have hz2 : W.heap.size < w2.heap.size := by have := hb2.size; omega
   go_wp2_with fail
   refine (l15Cuts_any m Hok.out _ _ t cuts _ _ Hk.out (hV1.below hb2) (hC1.below hb2) htl.2).mono ?_
   rintro e' w3 ⟨rfl, hb3⟩
   clear hx2
   go_wp2_with fail
   go_ret
   exact ⟨rfl, hB01.trans ((hb2.trans (hb3.mono hb2.size)).mono (by omega))⟩
/-- A design: cuts of all rows without false openings. -/
def designB (m : Mk) (t cuts : List (List Int)) : Bool := decide (cutC m t cuts = 0) && decide ((falseL m.c.toNat t cuts).length = 0)
def designC (m : Mk) (t cuts : List (List Int)) : Int := if designB m t cuts = true then 0 else 1
theorem designB_ok {m : Mk} {t cuts : List (List Int)} : designB m t cuts = true ↔ cutC m t cuts = 0 ∧ (falseL m.c.toNat t cuts).length = 0 := by
 unfold designB; simp
theorem designC_ok {m : Mk} {t cuts : List (List Int)} (h : designC m t cuts = 0) : cutC m t cuts = 0 ∧ (falseL m.c.toNat t cuts).length = 0 := by
 unfold designC at h
 split at h
 ·rename_i h1; exact designB_ok.1 h1
 ·cases h
theorem design_fits {m : Mk} {t cuts : List (List Int)} (h : designC m t cuts = 0) : Fits m t cuts ∧ cuts.length = t.length := by
 obtain ⟨h1, _⟩ := designC_ok h
 exact ⟨fits_of (cutC_part h1), (cutC_ok.1 h1).2.1⟩
theorem mc_nat {m : Mk} (h : m.ok = true) : ((m.c.toNat : Nat) : Int) = m.c := by have := Mk.ok_iff.1 h; omega
set_option maxRecDepth 100000 in
theorem IsDesign_b {S S' : Nat → Prop} (m : Mk) (u v : Value) (t cuts : List (List Int)) (W : World) (r : Bool) (hr : designB m t cuts = r) (h : V2 S W u t) (hc : V2 S' W v cuts) :
  Calls Tryz.prog 122 #[.agg #[.int .i64 m.c, .int .i64 m.d, .int .i64 m.s, .int .i64 m.e, .int .i64 m.l, u], v] W fun e' w' => e' = .returned (.bool r) ∧ Below W.heap.size W w' := by
 obtain ⟨a, c, rfl, hmx⟩ := h.form
 obtain ⟨a', c', rfl, hmx'⟩ := hc.form
 obtain ⟨W1, hW1, hB01, hz01, HZ01, hc01, hh01⟩ := box_facts W #[.int .i64 m.c, .int .i64 m.d, .int .i64 m.s, .int .i64 m.e, .int .i64 m.l, .slice a t.length c] 33
 have hV1 := (h.below hB01).any
 have hC1 := (hc.below hB01).any
 have hcode := cutsCode_any m _ _ t cuts W1 hV1 hC1
 unfold designB at hr
 by_cases hp : cutC m t cuts = 0
 ·rw [decide_eq_true hp, Bool.true_and] at hr
  rw [hp] at hcode
  have hf := fits_of (cutC_part hp)
  have hmc := mc_nat hf.ok
  have hfl := falseRows_len t cuts (locksTo m.c.toNat t cuts (getl t 0).length) (getl t 0).length cuts.length
  have him : cuts.length * (getl t 0).length ≤ 10 * 12 := Nat.mul_le_mul (by have := hf.few; have := hf.rows; omega) hf.doors.2
  have hfl2 : (falseL m.c.toNat t cuts).length ≤ 120 := Nat.le_trans hfl him
  have Hf := Lib.hid (And.intro hf hmc); clear hf hmc hfl him
  have Hcode := Lib.hid hcode; clear hcode
  have Hp := Lib.hid hp; clear hp
  have hd : (((falseL m.c.toNat t cuts).length : Int) == 0) = r := by rw [← hr, Bool.eq_iff_iff]; simp
  have Hd := Lib.hid hd; clear hd hr
  go_enter Tryz.func122, Tryz.ntmps122
  go_wp2_with fail
  rw [← hW1]
  refine Hcode.out.mono ?_
  rintro e' w2 ⟨rfl, hb2⟩
  have hx2 : ∀ o, w2.cell? ⟨W.heap.size, o, none⟩ = (#[.int .i64 m.c, .int .i64 m.d, .int .i64 m.s, .int .i64 m.e, .int .i64 m.l, .slice a t.length c] : Array Value)[o]? := fun o => by rw [(bcell hb2).1 _ _ hz01, hc01]
  have hz2 : W.heap.size < w2.heap.size := by have := hb2.size; omega
  clear hc01 hh01
  go_wp2_with fail
  refine (partFaults_any m _ _ t cuts m.c.toNat _ Hf.out.1 Hf.out.2 (hV1.below hb2) (hC1.below hb2)).mono ?_
  rintro e' w3 ⟨v3, rfl, hF3, hb3⟩
  obtain ⟨a3, c3, rfl, _⟩ := hF3.v2.form
  have hd := Hd.out
  clear hx2 hF3
  go_wp2_with fail
  go_ret
  exact ⟨rfl, hB01.trans ((hb2.trans (hb3.mono hb2.size)).mono (by omega))⟩
 ·rw [decide_eq_false hp, Bool.false_and] at hr
  subst hr
  have e1 : (cutC m t cuts == 0) = false := by simp [hp]
  have Hp := Lib.hid hp; clear hp
  generalize cutC m t cuts = pc at *
  go_enter Tryz.func122, Tryz.ntmps122
  go_wp2_with fail
  rw [← hW1]
  refine hcode.mono ?_
  rintro e' w2 ⟨rfl, hb2⟩
  clear hc01 hh01
  go_wp2_with fail
  go_ret
  exact ⟨rfl, hB01.trans (hb2.mono (by omega))⟩
set_option maxRecDepth 100000 in
theorem IsDesignR_b {S S' : Nat → Prop} (m : Mk) (u v : Value) (t cuts : List (List Int)) (W : World) (r : Bool) (hr : designB m t cuts = r) (h : V2 S W u t) (hc : V2 S' W v cuts) :
  Calls Tryz.prog 107 #[.agg #[.int .i64 m.c, .int .i64 m.d, .int .i64 m.s, .int .i64 m.e, .int .i64 m.l, u], v] W fun e' w' => e' = .returned (.bool r) ∧ Below W.heap.size W w' := by
 obtain ⟨a, c, rfl, hmx⟩ := h.form
 obtain ⟨a', c', rfl, hmx'⟩ := hc.form
 obtain ⟨W1, hW1, hB01, hz01, HZ01, hc01, hh01⟩ := box_facts W #[.int .i64 m.c, .int .i64 m.d, .int .i64 m.s, .int .i64 m.e, .int .i64 m.l, .slice a t.length c] 33
 have hV1 := (h.below hB01).any
 have hC1 := (hc.below hB01).any
 have hcode := l15Code_any m _ _ t cuts W1 hV1 hC1
 unfold designB at hr
 by_cases hp : cutC m t cuts = 0
 ·rw [decide_eq_true hp, Bool.true_and] at hr
  rw [hp] at hcode
  have hf := fits_of (cutC_part hp)
  have hmc := mc_nat hf.ok
  have hfl := falseRows_len t cuts (locksTo m.c.toNat t cuts (getl t 0).length) (getl t 0).length cuts.length
  have him : cuts.length * (getl t 0).length ≤ 10 * 12 := Nat.mul_le_mul (by have := hf.few; have := hf.rows; omega) hf.doors.2
  have hfl2 : (falseL m.c.toNat t cuts).length ≤ 120 := Nat.le_trans hfl him
  have Hf := Lib.hid (And.intro hf hmc); clear hf hmc hfl him
  have Hcode := Lib.hid hcode; clear hcode
  have Hp := Lib.hid hp; clear hp
  have hd : (((falseL m.c.toNat t cuts).length : Int) == 0) = r := by rw [← hr, Bool.eq_iff_iff]; simp
  have Hd := Lib.hid hd; clear hd hr
  go_enter Tryz.func107, Tryz.ntmps107
  go_wp2_with fail
  rw [← hW1]
  refine Hcode.out.mono ?_
  rintro e' w2 ⟨rfl, hb2⟩
  have hx2 : ∀ o, w2.cell? ⟨W.heap.size, o, none⟩ = (#[.int .i64 m.c, .int .i64 m.d, .int .i64 m.s, .int .i64 m.e, .int .i64 m.l, .slice a t.length c] : Array Value)[o]? := fun o => by rw [(bcell hb2).1 _ _ hz01, hc01]
  have hz2 : W.heap.size < w2.heap.size := by have := hb2.size; omega
  clear hc01 hh01
  go_wp2_with fail
  refine (l15False_any m _ _ t cuts m.c.toNat _ Hf.out.1 Hf.out.2 (hV1.below hb2) (hC1.below hb2)).mono ?_
  rintro e' w3 ⟨v3, rfl, hF3, hb3⟩
  obtain ⟨a3, c3, rfl, _⟩ := hF3.v2.form
  have hd := Hd.out
  clear hx2 hF3
  go_wp2_with fail
  go_ret
  exact ⟨rfl, hB01.trans ((hb2.trans (hb3.mono hb2.size)).mono (by omega))⟩
 ·rw [decide_eq_false hp, Bool.false_and] at hr
  subst hr
  have e1 : (cutC m t cuts == 0) = false := by simp [hp]
  have Hp := Lib.hid hp; clear hp
  generalize cutC m t cuts = pc at *
  go_enter Tryz.func107, Tryz.ntmps107
  go_wp2_with fail
  rw [← hW1]
  refine hcode.mono ?_
  rintro e' w2 ⟨rfl, hb2⟩
  clear hc01 hh01
  go_wp2_with fail
  go_ret
  exact ⟨rfl, hB01.trans (hb2.mono (by omega))⟩
set_option maxRecDepth 100000 in
theorem designCode_any {S S' : Nat → Prop} (m : Mk) (u v : Value) (t cuts : List (List Int)) (W : World) (h : V2 S W u t) (hc : V2 S' W v cuts) :
  Calls Tryz.prog 58 #[.agg #[.int .i64 m.c, .int .i64 m.d, .int .i64 m.s, .int .i64 m.e, .int .i64 m.l, u], v] W fun e' w' => e' = .returned (.int .i64 (designC m t cuts)) ∧ Below W.heap.size W w' := by
 obtain ⟨a, c, rfl, hmx⟩ := h.form
 obtain ⟨a', c', rfl, hmx'⟩ := hc.form
 obtain ⟨W1, hW1, hB01, hz01, HZ01, hc01, hh01⟩ := box_facts W #[.int .i64 m.c, .int .i64 m.d, .int .i64 m.s, .int .i64 m.e, .int .i64 m.l, .slice a t.length c] 33
 have hV1 := (h.below hB01).any
 have hC1 := (hc.below hB01).any
 cases hd : designB m t cuts
 all_goals
  first | (have hfin : designC m t cuts = 1 := (by unfold designC; rw [if_neg (by rw [hd]; decide)])) | (have hfin : designC m t cuts = 0 := (by unfold designC; rw [if_pos hd]))
  rw [hfin]
  have Hd := Lib.hid hd; clear hd hfin
  go_enter Tryz.func58, Tryz.ntmps58
  go_wp2_with fail
  rw [← hW1]
  refine (IsDesign_b m _ _ t cuts _ _ Hd.out hV1 hC1).mono ?_
  rintro e' w2 ⟨rfl, hb2⟩
  clear hc01 hh01
  go_wp2_with fail
  go_ret
  exact ⟨rfl, hB01.trans (hb2.mono (by omega))⟩
set_option maxRecDepth 100000 in
theorem l21Code_any {S S' : Nat → Prop} (m : Mk) (u v : Value) (t cuts : List (List Int)) (W : World) (h : V2 S W u t) (hc : V2 S' W v cuts) :
  Calls Tryz.prog 52 #[.agg #[.int .i64 m.c, .int .i64 m.d, .int .i64 m.s, .int .i64 m.e, .int .i64 m.l, u], v] W fun e' w' => e' = .returned (.int .i64 (designC m t cuts)) ∧ Below W.heap.size W w' := by
 obtain ⟨a, c, rfl, hmx⟩ := h.form
 obtain ⟨a', c', rfl, hmx'⟩ := hc.form
 obtain ⟨W1, hW1, hB01, hz01, HZ01, hc01, hh01⟩ := box_facts W #[.int .i64 m.c, .int .i64 m.d, .int .i64 m.s, .int .i64 m.e, .int .i64 m.l, .slice a t.length c] 33
 have hV1 := (h.below hB01).any
 have hC1 := (hc.below hB01).any
 cases hd : designB m t cuts
 all_goals
  first | (have hfin : designC m t cuts = 1 := (by unfold designC; rw [if_neg (by rw [hd]; decide)])) | (have hfin : designC m t cuts = 0 := (by unfold designC; rw [if_pos hd]))
  rw [hfin]
  have Hd := Lib.hid hd; clear hd hfin
  go_enter Tryz.func52, Tryz.ntmps52
  go_wp2_with fail
  rw [← hW1]
  refine (IsDesignR_b m _ _ t cuts _ _ Hd.out hV1 hC1).mono ?_
  rintro e' w2 ⟨rfl, hb2⟩
  clear hc01 hh01
  go_wp2_with fail
  go_ret
  exact ⟨rfl, hB01.trans (hb2.mono (by omega))⟩
/-- The doors among the first k whose locks a key opens. -/
def doorsTo (locks : List (List (List Int))) (key : List Int) : Nat → List Int
 | 0 => []
 | k + 1 => if opensB (getll locks k) key = true then doorsTo locks key k ++ [(k : Int)] else doorsTo locks key k
def doorsOf (locks : List (List (List Int))) (key : List Int) : List Int := doorsTo locks key locks.length
theorem doorsTo_len (locks : List (List (List Int))) (key : List Int) : ∀ k, (doorsTo locks key k).length ≤ k
 | 0 => Nat.le_refl _
 | k + 1 => by have := doorsTo_len locks key k; unfold doorsTo; split <;> simp <;> omega
theorem doorsOf_len (locks : List (List (List Int))) (key : List Int) : (doorsOf locks key).length ≤ locks.length := doorsTo_len _ _ _
set_option maxRecDepth 100000 in
theorem doorsOpened_any {S S' : Nat → Prop} (lv v : Value) (locks : List (List (List Int))) (key : List Int) (W : World) (h : V3 S W lv locks) (hk : V1 S' W v key) (hl : locks.length ≤ 1000) (hlen : ∀ k, k < locks.length → key.length ≤ (getll locks k).length) :
  Calls Tryz.prog 125 #[lv, v] W fun e' w' => ∃ v', e' = .returned v' ∧ F1 W.heap.size w' v' (doorsOf locks key) ∧ Below W.heap.size W w' := by
 have hV := h.any
 obtain ⟨a, c, rfl, hm⟩ := h.form
 have hK := hk.any
 obtain ⟨a', c', rfl, hm'⟩ := hk.form
 have Hlen := Lib.hid hlen; clear hlen
 have hown0 := own_lit0 W W.heap.size 2 1 (Nat.le_refl _)
 go_enter Tryz.func125, Tryz.ntmps125
 go_wp2_with fail
 go_loopw [5, 6, 7, 11] (fun o _ _ i wr => ∃ k : Nat, k ≤ locks.length ∧ i = .int .i64 (k : Int) ∧ wr.ownsRow W.heap.size 2 1 o (doorsTo locks key k).length ((doorsTo locks key k).map (Value.int .i64)) ∧ Below W.heap.size W wr) (fun _ _ _ i _ => locks.length - (intOf i).toNat)
 case atStart => exact ⟨0, Nat.zero_le _, rfl, hown0, (Below.refl _ _).alloc (Nat.le_refl _) _⟩
 case round =>
  obtain ⟨k, hkl, rfl, hown, hB⟩ := hrel
  have hdl := doorsTo_len locks key k
  have hzW := hB.size
  by_cases hkk : k < locks.length
  ·obtain ⟨b1, off1, a1, c1, rfl, _, hc1, hr1⟩ := (hV.below hB).cell hkk
   have hb1 := lt_of_cell hc1
   simp only at hb1
   have hlk := Hlen.out k hkk
   have hbA : Below wr.heap.size wr (wr.alloc (.cells #[.slice a1 (getll locks k).length c1] 137)) := (Below.refl _ _).alloc (Nat.le_refl _) _
   cases ho : opensB (getll locks k) key
   ·have hst : doorsTo locks key (k + 1) = doorsTo locks key k := by rw [doorsTo, ho]; rfl
    have Hst := Lib.hid hst; clear hst
    have Ho := Lib.hid ho; clear ho
    go_wp2_with fail
    refine (opens_b _ _ (getll locks k) key _ _ Ho.out (hr1.below hbA) ((hK.below hB).below hbA) hlk).mono ?_
    rintro e' w5 ⟨rfl, hb5⟩
    have hb05 := hbA.trans (hb5.mono (by simp))
    have hown5 := own_chg hown (Chg.of_below (F := fun _ => False) hb05) (fun _ _ h => h)
    clear hc1 hr1 hbA hown
    go_wp2_with fail
    go_roundw
    case rel => exact ⟨k + 1, by omega, by go_num, by rw [Hst.out]; exact hown5, hB.trans (hb05.mono hzW)⟩
    case measure => simp [intOf]; omega
   ·have hst : doorsTo locks key (k + 1) = doorsTo locks key k ++ [(k : Int)] := by rw [doorsTo, ho]; rfl
    have Hst := Lib.hid hst; clear hst
    have Ho := Lib.hid ho; clear ho
    go_wp2_with fail
    refine (opens_b _ _ (getll locks k) key _ _ Ho.out (hr1.below hbA) ((hK.below hB).below hbA) hlk).mono ?_
    rintro e' w5 ⟨rfl, hb5⟩
    have hb05 := hbA.trans (hb5.mono (by simp))
    have hz5 := hb05.size
    have hown5 := own_chg hown (Chg.of_below (F := fun _ => False) hb05) (fun _ _ h => h)
    clear hc1 hr1 hbA hown
    go_wp2_with (at_builtin; refine wp_app1 _ rfl _ _ 44 rfl W.heap.size 2 (.int .i64 0) 8 Tryz.underlying44 inf_int rfl _ _ _ rfl hown5 (.int .i64 k) _ rfl rfl (by omega) (by omega) (by omega) ?_; intro v1 w1 hown1 hgrow1 hblk1 hB1)
    go_roundw
    case rel => exact ⟨k + 1, by omega, by go_num, by rw [Hst.out, List.map_append, List.length_append]; exact hown1, (hB.trans (hb05.mono hzW)).trans hB1⟩
    case measure => simp [intOf]; omega
  ·obtain rfl : k = locks.length := by omega
   have hfx := own_F1 hown
   have Hfx := Lib.hid hfx; clear hfx hown
   go_wp2_with fail
   go_ret
   exact ⟨_, rfl, Hfx.out, hB⟩
set_option maxRecDepth 100000 in
theorem l16Doors_any {S S' S2 : Nat → Prop} (m : Mk) (u v kv : Value) (t cuts : List (List Int)) (key : List Int) (n : Nat) (W : World) (hf : Fits m t cuts) (hn : (n : Int) = m.c) (hkl : key.length ≤ n) (h : V2 S W u t) (hc : V2 S' W v cuts) (hk : V1 S2 W kv key) :
  Calls Tryz.prog 55 #[.agg #[.int .i64 m.c, .int .i64 m.d, .int .i64 m.s, .int .i64 m.e, .int .i64 m.l, u], v, kv] W fun e' w' => ∃ v', e' = .returned v' ∧ F1 W.heap.size w' v' (doorsOf (locksTo n t cuts (getl t 0).length) key) ∧ Below W.heap.size W w' := by
 obtain ⟨a, c, rfl, hmx⟩ := h.form
 obtain ⟨a', c', rfl, hmx'⟩ := hc.form
 obtain ⟨ka, kc, rfl, hmk⟩ := hk.form
 have hdoors := hf.doors
 have Hf := Lib.hid (And.intro hf hn); clear hf hn
 obtain ⟨locks, hlocks⟩ : ∃ x, x = locksTo n t cuts (getl t 0).length := ⟨_, rfl⟩
 rw [← hlocks]
 have hll : locks.length ≤ (getl t 0).length := by rw [hlocks, locksTo_len]; exact Nat.le_refl _
 have hlk : ∀ k, k < locks.length → (getll locks k).length = n := fun k hk => by rw [hlocks]; rw [hlocks, locksTo_len] at hk; exact lock_len hk
 have Hlocks := Lib.hid hlocks; clear hlocks
 have Hlk := Lib.hid hlk; clear hlk
 obtain ⟨W1, hW1, hB01, hz01, HZ01, hc01, hh01⟩ := box_facts W #[.int .i64 m.c, .int .i64 m.d, .int .i64 m.s, .int .i64 m.e, .int .i64 m.l, .slice a t.length c] 33
 have hV1 := (h.below hB01).any
 have hC1 := (hc.below hB01).any
 have hK1 := (hk.below hB01).any
 go_enter Tryz.func55, Tryz.ntmps55
 go_wp2_with fail
 rw [← hW1]
 refine (l15Locks_any m _ _ t cuts n _ Hf.out.1 Hf.out.2 hV1 hC1).mono ?_
 rintro e' wL ⟨lv, rfl, hLk0, hBL⟩
 rw [← Hlocks.out] at hLk0
 have hLk := hLk0.any
 have hzL := hBL.size
 obtain ⟨la, lc, rfl, hlm⟩ := hLk.form
 have HW1 := Lib.hid hW1; clear hW1 hh01 hc01 hLk0
 have hown0 := own_lit0 wL wL.heap.size 2 1 (Nat.le_refl _)
 go_wp2_with fail
 go_loopw [8, 9] (fun o i wr => ∃ k : Nat, k ≤ locks.length ∧ i = .int .i64 (k : Int) ∧ wr.ownsRow wL.heap.size 2 1 o (doorsTo locks key k).length ((doorsTo locks key k).map (Value.int .i64)) ∧ Below wL.heap.size wL wr) (fun _ i _ => locks.length - (intOf i).toNat)
 case atStart => exact ⟨0, Nat.zero_le _, rfl, hown0, (Below.refl _ _).alloc (Nat.le_refl _) _⟩
 case round =>
  obtain ⟨k, hkl, rfl, hown, hB⟩ := hrel
  have hdl := doorsTo_len locks key k
  have hzW := hB.size
  have hBW := hBL.trans (hB.mono hzL)
  by_cases hkk : k < locks.length
  ·obtain ⟨b1, off1, a1, c1, rfl, _, hc1, hr1⟩ := (hLk.below hB).cell hkk
   have hlk : key.length ≤ (getll locks k).length := by rw [Hlk.out k hkk]; omega
   cases ho : opensB (getll locks k) key
   ·have hst : doorsTo locks key (k + 1) = doorsTo locks key k := by rw [doorsTo, ho]; rfl
    have Hst := Lib.hid hst; clear hst
    have Ho := Lib.hid ho; clear ho
    go_wp2_with fail
    refine (l04Opens_b _ _ (getll locks k) key _ _ Ho.out hr1 (hK1.below hBW) hlk).mono ?_
    rintro e' w5 ⟨rfl, hb5⟩
    have hown5 := own_chg hown (Chg.of_below (F := fun _ => False) hb5) (fun _ _ h => h)
    clear hc1 hr1 hown
    go_wp2_with fail
    go_roundw
    case rel => exact ⟨k + 1, by omega, by go_num, by rw [Hst.out]; exact hown5, hB.trans (hb5.mono hzW)⟩
    case measure => simp [intOf]; omega
   ·have hst : doorsTo locks key (k + 1) = doorsTo locks key k ++ [(k : Int)] := by rw [doorsTo, ho]; rfl
    have Hst := Lib.hid hst; clear hst
    have Ho := Lib.hid ho; clear ho
    go_wp2_with fail
    refine (l04Opens_b _ _ (getll locks k) key _ _ Ho.out hr1 (hK1.below hBW) hlk).mono ?_
    rintro e' w5 ⟨rfl, hb5⟩
    have hz5 := hb5.size
    have hown5 := own_chg hown (Chg.of_below (F := fun _ => False) hb5) (fun _ _ h => h)
    clear hc1 hr1 hown
    go_wp2_with (at_builtin; refine wp_app1 _ rfl _ _ 44 rfl wL.heap.size 2 (.int .i64 0) 8 Tryz.underlying44 inf_int rfl _ _ _ rfl hown5 (.int .i64 k) _ rfl rfl (by omega) (by omega) (by omega) ?_; intro v1 w1 hown1 hgrow1 hblk1 hB1)
    go_roundw
    case rel => exact ⟨k + 1, by omega, by go_num, by rw [Hst.out, List.map_append, List.length_append]; exact hown1, (hB.trans (hb5.mono hzW)).trans hB1⟩
    case measure => simp [intOf]; omega
  ·obtain rfl : k = locks.length := by omega
   have hfx := own_F1 hown
   have Hfx := Lib.hid hfx; clear hfx hown
   go_wp2_with fail
   go_ret
   exact ⟨_, rfl, F1.mono Hfx.out (by omega), hB01.trans (hBW.mono (by omega))⟩
def keyC (m : Mk) (t cuts : List (List Int)) (key : List Int) : Int := if designC m t cuts ≠ 0 then designC m t cuts else if isKeyB m key = false then 2 else 0
set_option maxRecDepth 100000 in
theorem l21Key_any {S S' S2 : Nat → Prop} (m : Mk) (u v kv : Value) (t cuts : List (List Int)) (key : List Int) (W : World) (h : V2 S W u t) (hc : V2 S' W v cuts) (hk : V1 S2 W kv key) :
  Calls Tryz.prog 111 #[.agg #[.int .i64 m.c, .int .i64 m.d, .int .i64 m.s, .int .i64 m.e, .int .i64 m.l, u], v, kv] W fun e' w' => e' = .returned (.int .i64 (keyC m t cuts key)) ∧ Below W.heap.size W w' := by
 obtain ⟨a, c, rfl, hmx⟩ := h.form
 obtain ⟨a', c', rfl, hmx'⟩ := hc.form
 obtain ⟨ka, kc, rfl, hmk⟩ := hk.form
 obtain ⟨W1, hW1, hB01, hz01, HZ01, hc01, hh01⟩ := box_facts W #[.int .i64 m.c, .int .i64 m.d, .int .i64 m.s, .int .i64 m.e, .int .i64 m.l, .slice a t.length c] 33
 have hV1 := (h.below hB01).any
 have hC1 := (hc.below hB01).any
 have hK1 := (hk.below hB01).any
 have hcode := l21Code_any m _ _ t cuts W1 hV1 hC1
 by_cases hp : designC m t cuts = 0
 ·rw [hp] at hcode
  have hok := (design_fits hp).1.ok
  have hz1 : W.heap.size < W1.heap.size := hz01
  cases hk2 : isKeyB m key
  all_goals
   first | (have hfin : keyC m t cuts key = 2 := (by unfold keyC; rw [if_neg (by rw [hp]; decide), if_pos hk2])) | (have hfin : keyC m t cuts key = 0 := (by unfold keyC; rw [if_neg (by rw [hp]; decide), if_neg (by rw [hk2]; decide)]))
   first | (have hd : (fault m key != 0) = true := (by unfold isKeyB at hk2; simpa using hk2)) | (have hd : (fault m key != 0) = false := (by unfold isKeyB at hk2; simpa using hk2))
   rw [hfin]
   have Hcode := Lib.hid hcode; clear hcode
   have Hp := Lib.hid (And.intro hp (And.intro hfin hk2)); clear hp hfin hk2
   have Hok := Lib.hid hok; clear hok
   go_enter Tryz.func111, Tryz.ntmps111
   go_wp2_with fail
   rw [← hW1]
   refine Hcode.out.mono ?_
   rintro e' w2 ⟨rfl, hb2⟩
   have hx2 : ∀ o, w2.cell? ⟨W.heap.size, o, none⟩ = (#[.int .i64 m.c, .int .i64 m.d, .int .i64 m.s, .int .i64 m.e, .int .i64 m.l, .slice a t.length c] : Array Value)[o]? := fun o => by rw [(bcell hb2).1 _ _ hz01, hc01]
   have hz2 : W.heap.size < w2.heap.size := by have := hb2.size; omega
   clear hc01 hh01
   go_wp2_with fail
   refine (l02Fault_any m _ key _ Hok.out (hK1.below hb2)).mono ?_
   rintro e' w3 ⟨rfl, hb3⟩
   clear hx2
   go_wp2_with fail
   go_ret
   exact ⟨rfl, hB01.trans ((hb2.trans (hb3.mono hb2.size)).mono (by omega))⟩
 ·have hfin : keyC m t cuts key = designC m t cuts := by unfold keyC; rw [if_pos hp]
  have e1 : (designC m t cuts == 0) = false := by simp [hp]
  rw [hfin]
  have Hp := Lib.hid (And.intro hp hfin); clear hp hfin
  generalize designC m t cuts = pc at *
  go_enter Tryz.func111, Tryz.ntmps111
  go_wp2_with fail
  rw [← hW1]
  refine hcode.mono ?_
  rintro e' w2 ⟨rfl, hb2⟩
  clear hc01 hh01
  go_wp2_with fail
  go_ret
  exact ⟨rfl, hB01.trans (hb2.mono (by omega))⟩
end Go.Proofs.YtmjplkbmhdkggaaGreat
