/- The program's visit of all keys, as it is called. No conditions. -/
import Derived.Laws.EntriesVeiled
import Derived.Laws.AppendOwnNone
import Derived.Deep.RegionHeld3
import Derived.Deep.AppendLies
import Derived.Laws.OwnMore
import Derived.Test.YtmaefilliggjiaaGreatEach4
import Derived.Test.YtmaefilliggjiaaGreatMFault3
import Derived.Test.YtmaefilliggjiaaGreatMLib
import Derived.Test.YtmaefilliggjiaaGreatMTable
import Derived.Test.YtmaefilliggjiaaGreatMDraw1
import Derived.Test.YtmaefilliggjiaaGreatMShelf0
namespace Go.Proofs.YtmaefilliggjiaaGreat
open Go.RowKit
set_option linter.unusedVariables false
set_option linter.unusedSimpArgs false
theorem neqNilS (w : World) : Sem.run Tryz.prog (binOp .neq 35 (.slice none 0 0) (.slice none 0 0)) w = .ok (.bool false) w := by kernel_rfl
theorem heap_alloc_at (w : World) (o : Obj) (k : Nat) : (w.alloc o).heap[k]? = if k = w.heap.size then some o else w.heap[k]? := by
 show (w.heap.push o)[k]? = _
 rw [Array.getElem?_push]
/-- The blocks as they are made, one by one. -/
def ekAt (N : Nat) : EK := ⟨N + 1 + 1 + 1 + 1 + 1, N, N + 1 + 1 + 1, N + 1, N + 1 + 1, N + 1 + 1 + 1 + 1 + 1 + 1⟩
theorem es_make {σ : Type} {Inv : σ → (Nat → Prop) → World → Prop} {F0 : Nat → Prop} {s0 : σ} (m : Mk) (w : World) (fv av vv : Value) (Tm Tf Ta Tv Tk Tc : TypeId)
  (V : ∀ s F w w', Inv s F w → w.heap.size ≤ w'.heap.size → (∀ b, F b → w'.heap[b]? = w.heap[b]?) → Inv s F w') (hl : ∀ b, F0 b → b < w.heap.size) (hI : Inv s0 F0 w) :
  ES m w F0 Inv (ekAt w.heap.size) fv av vv s0 F0 (((((((w.alloc (.cells #[.int .i64 m.c, .int .i64 m.d, .int .i64 m.s, .int .i64 m.e, .int .i64 m.l] Tm)).alloc (.cells #[fv] Tf)).alloc (.cells #[av] Ta)).alloc (.cells #[vv] Tv)).alloc (.cells #[] 2)).alloc (.cells #[.slice (some ⟨w.heap.size + 1 + 1 + 1 + 1, 0, none⟩) 0 0] Tk)).alloc (.cells #[cutV (ekAt w.heap.size)] Tc)) [] (.slice (some ⟨w.heap.size + 1 + 1 + 1 + 1, 0, none⟩) 0 0) := by
 have hb : ∀ (o1 o2 o3 o4 o5 o6 o7 : Obj), Below w.heap.size w (((((((w.alloc o1).alloc o2).alloc o3).alloc o4).alloc o5).alloc o6).alloc o7) := fun _ _ _ _ _ _ _ => by
  repeat (first | exact Below.refl _ _ | refine Below.alloc ?_ (by simp; try omega) _)
 refine ⟨Chg.of_below (hb _ _ _ _ _ _ _), fun b h => .inl h, V _ _ _ _ hI (hb _ _ _ _ _ _ _).size (fun b h => (hb _ _ _ _ _ _ _).block b (hl b h)), fun b h => Nat.lt_of_lt_of_le (hl b h) (hb _ _ _ _ _ _ _).size, ?_, ?_, ⟨Tm, ?_⟩, ⟨Tv, ?_⟩, ⟨Tf, ?_⟩, ⟨Ta, ?_⟩, ⟨Tc, ?_⟩, ⟨Tk, ?_⟩, ?_, ?_⟩
 ·intro b h
  simp only [EK.has, ekAt] at h
  simp only [World.size_alloc]
  refine ⟨by omega, by omega, fun hf => by have := hl b hf; omega⟩
 ·simp only [ekAt]; omega
 ·simp only [ekAt, heap_alloc_at, World.size_alloc]; (repeat rw [if_neg (by omega)]); simp
 ·simp only [ekAt, heap_alloc_at, World.size_alloc]; simp
 ·simp only [ekAt, heap_alloc_at, World.size_alloc]; simp
 ·simp only [ekAt, heap_alloc_at, World.size_alloc]; simp
 ·simp only [heap_alloc_at, World.size_alloc]; simp [ekAt]
 ·simp only [ekAt, heap_alloc_at, World.size_alloc]; simp
 ·refine ⟨rfl, .inr ⟨w.heap.size + 1 + 1 + 1 + 1, 0, #[], rfl, by omega, ?_, Nat.le_refl _, Nat.zero_le _, rfl, rfl⟩⟩
  simp only [heap_alloc_at, World.size_alloc]; simp
 ·intro g hg
  simp only [Value.ownBlock, Option.some.injEq] at hg
  subst hg
  refine ⟨fun hf => by have := hl _ hf; omega, fun h => ?_⟩
  simp only [EK.has, ekAt] at h
  omega
section
variable {σ : Type} {m : Mk} {w0 : World} {F0 : Nat → Prop} {f : FuncId} {caps : Array Value} {step : σ → List Int → σ × Bool} {s0 : σ} {L : List (List Int)} {Inv : σ → (Nat → Prop) → World → Prop} {o : EK} {fv av : Value} {A : Nat → Int → Bool} {fr : List Int}
set_option maxRecDepth 100000 in
theorem eachKey_any (hm : m.ok = true) (w : World) (V : VisOk m.c.toNat w F0 f caps step s0 (genF m A [] false m.c.toNat []) Inv) (hA : AOk m w F0 av A) (hI : Inv s0 F0 w) :
  Calls Tryz.prog 111 #[.agg #[.int .i64 m.c, .int .i64 m.d, .int .i64 m.s, .int .i64 m.e, .int .i64 m.l], .slice none 0 0, av, .func (.func f) #[] caps] w
   (fun e w' => ∃ F', Inv (runL step s0 (genF m A [] false m.c.toNat [])).1 F' w' ∧ Chg F0 w w' ∧ (∀ b, F' b → F0 b ∨ w.heap.size ≤ b) ∧ e = .returned undef) := by
 have hS := neqNilS
 have hmk := Mk.ok_iff.1 hm
 have hl : (([] : List Int).length : Int) + m.c.toNat = m.c := by simp; omega
 have Hl := Lib.hid hl; clear hl hmk
 have HA := Lib.hid hA
 rcases hA with ⟨rfl, hA1⟩ | ⟨fa, ac, rfl, hen, hcl⟩
 ·clear hA1
  have hES := es_make (σ := σ) m w (.slice none 0 0) .nilFunc (.func (.func f) #[] caps) 25 35 186 115 35 187 V.keep (V.lt _ _ _ hI) hI
  have HES := Lib.hid hES; clear hES
  have HV := Lib.hid V; clear V hI
  go_enter Tryz.func111, Tryz.ntmps111
  go_wp2_with fail
  refine (cut_free (fr := []) hm HV.out HA.out m.c.toNat s0 F0 _ [] _ [] [] Hl.out (fun k hk => by simp at hk) (by simp) rfl HES.out).mono ?_
  rintro e w' ⟨F', kv', rfl, hE⟩
  have HE := Lib.hid hE; clear hE
  go_wp2_with fail
  go_end0
  exact ⟨F', HE.out.inv, HE.out.chg, HE.out.sub, rfl⟩
 ·clear hcl
  have hES := es_make (σ := σ) m w (.slice none 0 0) (.func (.func fa) #[] ac) (.func (.func f) #[] caps) 25 35 186 115 35 187 V.keep (V.lt _ _ _ hI) hI
  have HES := Lib.hid hES; clear hES
  have HV := Lib.hid V; clear V hI hen
  go_enter Tryz.func111, Tryz.ntmps111
  go_wp2_with fail
  refine (cut_free (fr := []) hm HV.out HA.out m.c.toNat s0 F0 _ [] _ [] [] Hl.out (fun k hk => by simp at hk) (by simp) rfl HES.out).mono ?_
  rintro e w' ⟨F', kv', rfl, hE⟩
  have HE := Lib.hid hE; clear hE
  go_wp2_with fail
  go_end0
  exact ⟨F', HE.out.inv, HE.out.chg, HE.out.sub, rfl⟩
end
theorem fit_run {m : Mk} {l : List Int} {k : Nat} {r : Int} (hr : (runAt l k : Int) = r) (h : m.e < r) : fitAt m l k = false := by
 unfold fitAt; rw [hr, decide_eq_false (by omega)]; rfl
theorem fit_step {m : Mk} {l : List Int} {k : Nat} {q : Int} (hq : absI (geti l k - geti l (k - 1)) = q) (h0 : 0 < k) (h : m.s < q) : fitAt m l k = false := by
 unfold fitAt; rw [hq]
 have h1 : (k == 0) = false := by simp; omega
 rw [h1, decide_eq_false (show ¬ q ≤ m.s by omega)]; simp
theorem fit_ok {m : Mk} {l : List Int} {k : Nat} {r : Int} (hr : (runAt l k : Int) = r) (h : ¬ m.e < r) (hs : k = 0 ∨ ¬ m.s < absI (geti l k - geti l (k - 1))) : fitAt m l k = true := by
 unfold fitAt; rw [hr, decide_eq_true (show r ≤ m.e by omega), Bool.true_and]
 rcases hs with h | h
 ·subst h; rfl
 ·rw [decide_eq_true (show absI (geti l k - geti l (k - 1)) ≤ m.s by omega)]; simp
theorem begins_not {m : Mk} {l : List Int} {k : Nat} (h : k < l.length) (hf : fitAt m l k = false) : begins m l = false := by
 rw [← Bool.not_eq_true, begins_iff]; intro hc; rw [hc k h] at hf; cases hf
set_option maxRecDepth 100000 in
theorem l02Begins_any {S : Nat → Prop} (m : Mk) (v : Value) (l : List Int) (W : World) (h : V1 S W v l) (hlen : l.length ≤ 1000) (hrange : ∀ k, k < l.length → 0 ≤ geti l k ∧ geti l k ≤ 7) :
  Calls Tryz.prog 235 #[.agg #[.int .i64 m.c, .int .i64 m.d, .int .i64 m.s, .int .i64 m.e, .int .i64 m.l], v] W fun e' w' => e' = .returned (.bool (begins m l)) ∧ Below W.heap.size W w' := by
 have hV := h
 have Hrange := Lib.hid hrange; clear hrange
 obtain ⟨a, c, rfl, hmx⟩ := h.form
 obtain ⟨W1, hW1, hB01, hz01, HZ01, hc01, hh01⟩ := box_facts W #[.int .i64 m.c, .int .i64 m.d, .int .i64 m.s, .int .i64 m.e, .int .i64 m.l] 25
 have hV1 := hV.below hB01
 go_enter Tryz.func235, Tryz.ntmps235
 go_wp2_with fail
 rw [← hW1]
 have HW1 := Lib.hid hW1; clear hW1
 clear hh01
 go_wp2_with fail
 go_loopw [5, 6] (fun ru i wr => ∃ k n : Nat, k ≤ l.length ∧ i = .int .i64 (k : Int) ∧ ru = .int .i64 (lastRun l k : Int) ∧ (∀ j, j < k → fitAt m l j = true) ∧ wr = W1.drewN n) (fun _ i _ => l.length - (intOf i).toNat)
 case atStart => exact ⟨0, 0, Nat.zero_le _, rfl, rfl, fun j hj => by omega, rfl⟩
 case round =>
  obtain ⟨k, n, hk, rfl, rfl, hpre, rfl⟩ := hrel
  have Hpre := Lib.hid hpre; clear hpre
  have hlr := lastRun_le l k
  by_cases hkk : k < l.length
  ·obtain ⟨b1, off1, rfl, _, hc1⟩ := hV1.cell hkk
   have hr1 := Hrange.out _ hkk
   by_cases h0 : k = 0
   ·have hru : runAt l k = lastRun l k + 1 := runAt_last (.inl h0)
    have hd : decide (0 < k) = false := by simp [h0]
    have H0 := Lib.hid h0; clear h0
    have hru' : (runAt l k : Int) = (lastRun l k : Int) + 1 := by rw [hru]; rfl
    have Hru := Lib.hid hru; clear hru
    have Hru' := Lib.hid hru'; clear hru'
    by_cases hbad : m.e < (lastRun l k : Int) + 1
    ·have hfin := begins_not hkk (fit_run Hru'.out hbad)
     have Hf := Lib.hid hfin; clear hfin
     generalize hLR : lastRun l k = lr at *
     have HLR := Lib.hid hLR; clear hLR
     have hdd : decide (m.e < (lr : Int) + 1) = true := decide_eq_true hbad
     go_wp2_with fail
     go_quiet (fail)
     go_wp2_with fail
     go_quiet (fail)
     go_wp2_with fail
     go_ret
     exact ⟨ret_bool Hf.out.symm, by repeat' first | refine below_drewN ?_ _ | exact hB01⟩
    ·have hfit := fit_ok Hru'.out hbad (.inl H0.out)
     have Hfit := Lib.hid hfit; clear hfit
     generalize hLR : lastRun l k = lr at *
     have HLR := Lib.hid hLR; clear hLR
     have hdd : decide (m.e < (lr : Int) + 1) = false := decide_eq_false hbad
     go_wp2_with fail
     go_quiet (fail)
     go_wp2_with fail
     go_quiet (fail)
     go_wp2_with fail
     go_roundw
     case rel => exact ⟨k + 1, _, by omega, by go_num, by rw [show lastRun l (k + 1) = runAt l k from rfl, Hru.out]; go_num, fun j hj => by
      by_cases e : j = k
      ·subst e; exact Hfit.out
      ·exact Hpre.out j (by omega), by first | rfl | simp only [World.drewN_drewN]⟩
     case measure => simp [intOf]; omega
   ·have h1 : 0 < k := by omega
    obtain ⟨b2, off2, e3, _, hc2⟩ := hV1.cell (k := k - 1) (by omega)
    simp only [Option.some.injEq, Addr.mk.injEq, and_true] at e3
    obtain ⟨rfl, rfl⟩ := e3
    have hr2 := Hrange.out (k - 1) (by omega)
    obtain ⟨q, hq⟩ : ∃ q, absI (geti l k - geti l (k - 1)) = q := ⟨_, rfl⟩
    have hw : IntKind.i64.wrap (geti l k - geti l (k - 1)) = geti l k - geti l (k - 1) := IntWalk.i64_in _ (by omega)
    have Hq := Lib.hid hq; clear hq
    clear h0
    by_cases he : geti l k = geti l (k - 1)
    ·have e4 : (geti l k != geti l (k - 1)) = false := by simp [he]
     have hru : runAt l k = lastRun l k + 1 := runAt_last (.inr he)
     have hru' : (runAt l k : Int) = (lastRun l k : Int) + 1 := by rw [hru]; rfl
     have Hru := Lib.hid hru; clear hru
     have Hru' := Lib.hid hru'; clear hru'
     have He := Lib.hid he; clear he
     by_cases hbad : m.e < (lastRun l k : Int) + 1
     ·have hfin := begins_not hkk (fit_run Hru'.out hbad)
      have Hf := Lib.hid hfin; clear hfin
      generalize hLR : lastRun l k = lr at *
      have HLR := Lib.hid hLR; clear hLR
      have hdd : decide (m.e < (lr : Int) + 1) = true := decide_eq_true hbad
      go_wp2_with fail
      go_quiet (fail)
      go_wp2_with fail
      go_quiet (fail)
      go_wp2_with fail
      go_ret
      exact ⟨ret_bool Hf.out.symm, by repeat' first | refine below_drewN ?_ _ | exact hB01⟩
     ·by_cases hstep : m.s < q
      ·have hfin := begins_not hkk (fit_step Hq.out h1 hstep)
       have Hf := Lib.hid hfin; clear hfin
       generalize hLR : lastRun l k = lr at *
       have HLR := Lib.hid hLR; clear hLR
       have hdd : decide (m.e < (lr : Int) + 1) = false := decide_eq_false hbad
       go_wp2_with fail
       go_quiet (fail)
       go_wp2_with fail
       go_quiet ((go_at_call 266; first | exact quiet_same (l01Abs_b _ _ _ Hq.out (by omega)) | exact quiet_same0 (l01Abs_b _ _ _ Hq.out (by omega))))
       go_wp2_with fail
       go_ret
       exact ⟨ret_bool Hf.out.symm, by repeat' first | refine below_drewN ?_ _ | exact hB01⟩
      ·have hfit := fit_ok Hru'.out hbad (.inr (by rw [Hq.out]; exact hstep))
       have Hfit := Lib.hid hfit; clear hfit
       generalize hLR : lastRun l k = lr at *
       have HLR := Lib.hid hLR; clear hLR
       have hdd : decide (m.e < (lr : Int) + 1) = false := decide_eq_false hbad
       have hds : decide (m.s < q) = false := decide_eq_false hstep
       go_wp2_with fail
       go_quiet (fail)
       go_wp2_with fail
       go_quiet ((go_at_call 266; first | exact quiet_same (l01Abs_b _ _ _ Hq.out (by omega)) | exact quiet_same0 (l01Abs_b _ _ _ Hq.out (by omega))))
       go_wp2_with fail
       go_roundw
       case rel => exact ⟨k + 1, _, by omega, by go_num, by rw [show lastRun l (k + 1) = runAt l k from rfl, Hru.out]; go_num, fun j hj => by
        by_cases e : j = k
        ·subst e; exact Hfit.out
        ·exact Hpre.out j (by omega), by first | rfl | simp only [World.drewN_drewN]⟩
       case measure => simp [intOf]; omega
    ·have e4 : (geti l k != geti l (k - 1)) = true := by simp [he]
     have hru : runAt l k = 1 := runAt_new h1 he
     have hru' : (runAt l k : Int) = 1 := by rw [hru]; rfl
     have Hru := Lib.hid hru; clear hru
     have Hru' := Lib.hid hru'; clear hru'
     have He := Lib.hid he; clear he
     by_cases hbad : m.e < 1
     ·have hfin := begins_not hkk (fit_run Hru'.out hbad)
      have Hf := Lib.hid hfin; clear hfin
      generalize hLR : lastRun l k = lr at *
      have HLR := Lib.hid hLR; clear hLR
      have hdd : decide (m.e < 1) = true := decide_eq_true hbad
      go_wp2_with fail
      go_quiet (fail)
      go_wp2_with fail
      go_quiet (fail)
      go_wp2_with fail
      go_ret
      exact ⟨ret_bool Hf.out.symm, by repeat' first | refine below_drewN ?_ _ | exact hB01⟩
     ·by_cases hstep : m.s < q
      ·have hfin := begins_not hkk (fit_step Hq.out h1 hstep)
       have Hf := Lib.hid hfin; clear hfin
       generalize hLR : lastRun l k = lr at *
       have HLR := Lib.hid hLR; clear hLR
       have hdd : decide (m.e < 1) = false := decide_eq_false hbad
       go_wp2_with fail
       go_quiet (fail)
       go_wp2_with fail
       go_quiet ((go_at_call 266; first | exact quiet_same (l01Abs_b _ _ _ Hq.out (by omega)) | exact quiet_same0 (l01Abs_b _ _ _ Hq.out (by omega))))
       go_wp2_with fail
       go_ret
       exact ⟨ret_bool Hf.out.symm, by repeat' first | refine below_drewN ?_ _ | exact hB01⟩
      ·have hfit := fit_ok Hru'.out hbad (.inr (by rw [Hq.out]; exact hstep))
       have Hfit := Lib.hid hfit; clear hfit
       generalize hLR : lastRun l k = lr at *
       have HLR := Lib.hid hLR; clear hLR
       have hdd : decide (m.e < 1) = false := decide_eq_false hbad
       have hds : decide (m.s < q) = false := decide_eq_false hstep
       go_wp2_with fail
       go_quiet (fail)
       go_wp2_with fail
       go_quiet ((go_at_call 266; first | exact quiet_same (l01Abs_b _ _ _ Hq.out (by omega)) | exact quiet_same0 (l01Abs_b _ _ _ Hq.out (by omega))))
       go_wp2_with fail
       go_roundw
       case rel => exact ⟨k + 1, _, by omega, by go_num, by rw [show lastRun l (k + 1) = runAt l k from rfl, Hru.out]; rfl, fun j hj => by
        by_cases e : j = k
        ·subst e; exact Hfit.out
        ·exact Hpre.out j (by omega), by first | rfl | simp only [World.drewN_drewN]⟩
       case measure => simp [intOf]; omega
  ·obtain rfl : k = l.length := by omega
   have hfin : begins m l = true := begins_iff.2 Hpre.out
   have Hf := Lib.hid hfin; clear hfin
   generalize hLR : lastRun l l.length = lr at *
   have HLR := Lib.hid hLR; clear hLR
   go_wp2_with fail
   go_ret
   exact ⟨ret_bool Hf.out.symm, by repeat' first | refine below_drewN ?_ _ | exact hB01⟩
theorem l02Begins_b {S : Nat → Prop} (m : Mk) (v : Value) (l : List Int) (W : World) (r : Bool) (hr : begins m l = r) (h : V1 S W v l) (hlen : l.length ≤ 1000) (hrange : ∀ k, k < l.length → 0 ≤ geti l k ∧ geti l k ≤ 7) :
  Calls Tryz.prog 235 #[.agg #[.int .i64 m.c, .int .i64 m.d, .int .i64 m.s, .int .i64 m.e, .int .i64 m.l], v] W fun e' w' => e' = .returned (.bool r) ∧ Below W.heap.size W w' := by subst hr; exact l02Begins_any m v l W h hlen hrange
theorem V1.pv {S : Nat → Prop} {w : World} {v : Value} {l : List Int} (h : V1 S w v l) (hn : l ≠ []) : PV v := by
 obtain ⟨a, c, rfl, _, _, h⟩ := h
 obtain ⟨b, off, ev, rfl, _⟩ := h 0 (by cases l with | nil => exact absurd rfl hn | cons x xs => simp)
 exact .inr ⟨_, _, _, _, rfl⟩
def OwnPost (W : World) (l : List Int) (e' : Ending) (w' : World) : Prop := ∃ v', e' = .returned v' ∧ w'.ownsRow W.heap.size 2 1 v' l.length (l.map (Value.int .i64)) ∧ Below W.heap.size W w'
theorem l01Own_any {S : Nat → Prop} (v : Value) (l : List Int) (W : World) (h : V1 S W v l) (hp : l = [] → PV v) (hlen : l.length ≤ 1000000) :
  Calls Tryz.prog 136 #[v] W (OwnPost W l) := by
 obtain ⟨i0, hi, hz0, hz1, hz2⟩ := info_parts inf_int
 have hV := h
 obtain ⟨a, c, rfl, hm⟩ := h.form
 by_cases hn : l = []
 ·subst hn
  rcases hp rfl with e | ⟨b, off, n, c', e⟩
  ·simp only [List.length_nil, Value.slice.injEq] at e
   obtain ⟨rfl, _, rfl⟩ := e
   have hown0 := own_lit0 W W.heap.size 2 1 (Nat.le_refl _)
   go_enter Tryz.func136, Tryz.ntmps136
   go_wp2_with (at_builtin; refine wpList_append_own_none rfl _ _ 35 rfl W.heap.size 2 i0 1 Tryz.underlying35 hi _ _ _ rfl hown0 rfl ?_)
   go_ret
   exact ⟨_, rfl, hown0, (Below.refl _ _).alloc (Nat.le_refl _) _⟩
  ·simp only [List.length_nil, Value.slice.injEq] at e
   obtain ⟨rfl, rfl, rfl⟩ := e
   have hown0 := own_lit0 W W.heap.size 2 1 (Nat.le_refl _)
   go_enter Tryz.func136, Tryz.ntmps136
   go_wp2_with (at_builtin; refine wp_app rfl _ _ 35 rfl W.heap.size 2 (.int .i64 0) 1 8 Tryz.underlying35 inf_int rfl (by omega) _ _ _ rfl hown0 _ _ _ [] rfl rfl (fun j u hj => by simp at hj) (by simp) (by unfold maxLen; omega) (by omega) (by simp) ?_; intro v1 w1 hown1 hgrow1 hblk1)
   go_ret
   exact ⟨_, rfl, hown1, ((Below.refl _ _).alloc (Nat.le_refl _) _).grown hgrow1 (by simp) (fun k hk => by have := hown0.lt k hk; exact this.1)⟩
 ·obtain ⟨b, off, rfl, _, _⟩ := hV.cell (k := 0) (by cases l with | nil => exact absurd rfl hn | cons x xs => simp)
  have hown0 := own_lit0 W W.heap.size 2 1 (Nat.le_refl _)
  have hV2 := hV.below ((Below.refl W.heap.size W).alloc (Nat.le_refl _) (.cells #[] 2))
  have hnews : ∀ j u, (l.map (Value.int .i64))[j]? = some u → (W.alloc (.cells #[] 2)).cell? ((⟨b, off, none⟩ : Addr).add j) = some u := by
   intro j u hj
   have hjl : j < l.length := by
    rw [List.getElem?_map] at hj
    by_cases hjl : j < l.length
    ·exact hjl
    ·rw [List.getElem?_eq_none (by omega)] at hj; cases hj
   obtain ⟨b', off', e, _, hc⟩ := hV2.cell hjl
   simp only [Option.some.injEq, Addr.mk.injEq, and_true] at e
   obtain ⟨rfl, rfl⟩ := e
   rw [List.getElem?_map, List.getElem?_eq_getElem hjl] at hj
   have hadd : (⟨b, off, none⟩ : Addr).add j = ⟨b, off + j, none⟩ := by unfold Addr.add; split <;> simp_all
   rw [hadd, hc, ← hj, geti_eq hjl]; rfl
  have Hnews := Lib.hid hnews; clear hnews
  have Hn := Lib.hid hn; clear hn hp
  go_enter Tryz.func136, Tryz.ntmps136
  go_wp2_with (at_builtin; refine wp_app rfl _ _ 35 rfl W.heap.size 2 (.int .i64 0) 1 8 Tryz.underlying35 inf_int rfl (by omega) _ _ _ rfl hown0 _ _ _ (l.map (Value.int .i64)) rfl (by simp) Hnews.out (by intro u hu; simp at hu; obtain ⟨x, _, rfl⟩ := hu; rfl) (by unfold maxLen; omega) (by omega) (by simp) ?_; intro v1 w1 hown1 hgrow1 hblk1)
  go_ret
  refine ⟨_, rfl, ?_, ((Below.refl _ _).alloc (Nat.le_refl _) _).grown hgrow1 (by simp) (fun k hk => by have := hown0.lt k hk; exact this.1)⟩
  simpa using hown1
theorem own_V1T {w : World} {B : Nat} {e : TypeId} {v : Value} {n : Nat} {l : List Int} {xs : List Value} (h : w.ownsRow B e 1 v n xs) (hx : xs = l.map (Value.int .i64)) : V1 (fun _ => True) w v l := by
 subst hx; exact (own_V1 h).mono (fun _ _ _ => trivial) (fun _ _ _ => rfl)
def cntTo (m : Mk) (rem : Nat) (l : List Int) (x : Nat) : Nat := ((depths 0 x).flatMap fun y => genB m rem (l ++ [y])).length
theorem cntTo_succ (m : Mk) (rem : Nat) (l : List Int) (x : Nat) : cntTo m rem l (x + 1) = cntTo m rem l x + (genB m rem (l ++ [(x : Int)])).length := by
 unfold cntTo; rw [depths_snoc (Nat.zero_le _)]; simp
theorem genB_le {m : Mk} (hd : m.d.toNat ≤ 8) (rem : Nat) (l : List Int) (hr : rem ≤ 6) : (genB m rem l).length ≤ 262144 := by
 unfold genB
 split
 ·refine Nat.le_trans (gen_length 8 hd rem l) ?_
  exact Nat.le_trans (Nat.pow_le_pow_right (by decide) hr) (by decide)
 ·simp
theorem cntTo_le {m : Mk} (hd : m.d.toNat ≤ 8) (rem : Nat) (l : List Int) (hr : rem ≤ 6) : ∀ x, cntTo m rem l x ≤ x * 262144
 | 0 => by simp [cntTo, depths]
 | x + 1 => by rw [cntTo_succ]; have := cntTo_le hd rem l hr x; have := genB_le hd rem (l ++ [(x : Int)]) hr; omega
theorem mkB_keep {b B : Nat} {w0 w w' : World} {c0 c1 c2 c3 c4 : Value} (hbB : b < B) (h : w.cell? ⟨b, 0, none⟩ = some c0 ∧ w.cell? ⟨b, 1, none⟩ = some c1 ∧ w.cell? ⟨b, 2, none⟩ = some c2 ∧ w.cell? ⟨b, 3, none⟩ = some c3 ∧ w.cell? ⟨b, 4, none⟩ = some c4 ∧ Below B w0 w) (hb : Below B w w') :
  w'.cell? ⟨b, 0, none⟩ = some c0 ∧ w'.cell? ⟨b, 1, none⟩ = some c1 ∧ w'.cell? ⟨b, 2, none⟩ = some c2 ∧ w'.cell? ⟨b, 3, none⟩ = some c3 ∧ w'.cell? ⟨b, 4, none⟩ = some c4 ∧ Below B w0 w' := by
 obtain ⟨h0, h1, h2, h3, h4, h5⟩ := h
 have hk := hb.block b hbB
 exact ⟨cell_keep h0 hk, cell_keep h1 hk, cell_keep h2 hk, cell_keep h3 hk, cell_keep h4 hk, h5.trans hb⟩
section
variable {b : Nat} {w0 w w' : World} {c0 c1 c2 c3 c4 : Value}
theorem mkB_call (hbB : b < w0.heap.size) (h : w.cell? ⟨b, 0, none⟩ = some c0 ∧ w.cell? ⟨b, 1, none⟩ = some c1 ∧ w.cell? ⟨b, 2, none⟩ = some c2 ∧ w.cell? ⟨b, 3, none⟩ = some c3 ∧ w.cell? ⟨b, 4, none⟩ = some c4 ∧ Below w0.heap.size w0 w) (hb : Below w.heap.size w w') :
  w'.cell? ⟨b, 0, none⟩ = some c0 ∧ w'.cell? ⟨b, 1, none⟩ = some c1 ∧ w'.cell? ⟨b, 2, none⟩ = some c2 ∧ w'.cell? ⟨b, 3, none⟩ = some c3 ∧ w'.cell? ⟨b, 4, none⟩ = some c4 ∧ Below w0.heap.size w0 w' :=
 mkB_keep hbB h (hb.mono h.2.2.2.2.2.size)
theorem mkB_alloc (hbB : b < w0.heap.size) (h : w.cell? ⟨b, 0, none⟩ = some c0 ∧ w.cell? ⟨b, 1, none⟩ = some c1 ∧ w.cell? ⟨b, 2, none⟩ = some c2 ∧ w.cell? ⟨b, 3, none⟩ = some c3 ∧ w.cell? ⟨b, 4, none⟩ = some c4 ∧ Below w0.heap.size w0 w) (o : Obj) :
  (w.alloc o).cell? ⟨b, 0, none⟩ = some c0 ∧ (w.alloc o).cell? ⟨b, 1, none⟩ = some c1 ∧ (w.alloc o).cell? ⟨b, 2, none⟩ = some c2 ∧ (w.alloc o).cell? ⟨b, 3, none⟩ = some c3 ∧ (w.alloc o).cell? ⟨b, 4, none⟩ = some c4 ∧ Below w0.heap.size w0 (w.alloc o) :=
 mkB_call hbB h ((Below.refl _ _).alloc (Nat.le_refl _) _)
theorem mkB_grown {ob : Option Nat} (hbB : b < w0.heap.size) (h : w.cell? ⟨b, 0, none⟩ = some c0 ∧ w.cell? ⟨b, 1, none⟩ = some c1 ∧ w.cell? ⟨b, 2, none⟩ = some c2 ∧ w.cell? ⟨b, 3, none⟩ = some c3 ∧ w.cell? ⟨b, 4, none⟩ = some c4 ∧ Below w0.heap.size w0 w) (hg : w.grownBy w' ob) (ho : ∀ k, ob = some k → w0.heap.size ≤ k) :
  w'.cell? ⟨b, 0, none⟩ = some c0 ∧ w'.cell? ⟨b, 1, none⟩ = some c1 ∧ w'.cell? ⟨b, 2, none⟩ = some c2 ∧ w'.cell? ⟨b, 3, none⟩ = some c3 ∧ w'.cell? ⟨b, 4, none⟩ = some c4 ∧ Below w0.heap.size w0 w' :=
 mkB_keep hbB h ((Below.refl _ _).grown hg h.2.2.2.2.2.size ho)
theorem mkB_below (h : w.cell? ⟨b, 0, none⟩ = some c0 ∧ w.cell? ⟨b, 1, none⟩ = some c1 ∧ w.cell? ⟨b, 2, none⟩ = some c2 ∧ w.cell? ⟨b, 3, none⟩ = some c3 ∧ w.cell? ⟨b, 4, none⟩ = some c4 ∧ Below w0.heap.size w0 w) : Below w0.heap.size w0 w := h.2.2.2.2.2
theorem mkB_size (h : w.cell? ⟨b, 0, none⟩ = some c0 ∧ w.cell? ⟨b, 1, none⟩ = some c1 ∧ w.cell? ⟨b, 2, none⟩ = some c2 ∧ w.cell? ⟨b, 3, none⟩ = some c3 ∧ w.cell? ⟨b, 4, none⟩ = some c4 ∧ Below w0.heap.size w0 w) : w0.heap.size ≤ w.heap.size := h.2.2.2.2.2.size
end
theorem news_old {w w' : World} {cs : Array Value} {T : TypeId} (hb : Below (w.alloc (.cells cs T)).drew.heap.size (w.alloc (.cells cs T)).drew w') : ∀ j u, cs.toList[j]? = some u → w'.cell? ((⟨w.heap.size, 0, none⟩ : Addr).add j) = some u :=
 World.news_of_block (heap_below (w := (w.alloc (.cells cs T)).drew) (heap_alloc_new w _) hb (by simp))
theorem range_snoc {l : List Int} {x : Nat} (h : ∀ k, k < l.length → 0 ≤ geti l k ∧ geti l k ≤ 7) (hx : x < 8) : ∀ k, k < (l ++ [(x : Int)]).length → 0 ≤ geti (l ++ [(x : Int)]) k ∧ geti (l ++ [(x : Int)]) k ≤ 7 := by
 intro k hk
 by_cases hkl : k < l.length
 ·rw [geti_append hkl]; exact h k hkl
 ·rw [show k = l.length from by simp at hk; omega, geti_snoc]; omega
set_option maxRecDepth 100000 in
set_option maxHeartbeats 2000000 in
theorem l02Count_any (m : Mk) (hm : m.ok = true) : ∀ (rem : Nat) (S : Nat → Prop) (v : Value) (l : List Int) (W : World), V1 S W v l → (l = [] → PV v) → (l.length : Int) + rem = m.c → (∀ k, k < l.length → 0 ≤ geti l k ∧ geti l k ≤ 7) →
  Calls Tryz.prog 151 #[.agg #[.int .i64 m.c, .int .i64 m.d, .int .i64 m.s, .int .i64 m.e, .int .i64 m.l], v] W fun e' w' => e' = .returned (.int .i64 ((genB m rem l).length : Int)) ∧ Below W.heap.size W w' := by
 have hmk := Mk.ok_iff.1 hm
 obtain ⟨i0, hi, hz0, hz1, hz2⟩ := info_parts inf_int
 intro rem
 induction rem with
 | zero =>
   intro S v l W h hp hlr hrange
   have hV := h
   have Hrange := Lib.hid hrange; clear hrange
   have Hmk := Lib.hid hmk
   obtain ⟨a, c, rfl, hmx⟩ := h.form
   clear hp hm
   have hlen : l.length ≤ 6 := by omega
   have hl : (l.length : Int) = m.c := by omega
   have e2 : ((l.length : Int) == m.c) = true := by simp [hl]
   have Hl := Lib.hid hl; clear hl hlr hmk
   obtain ⟨W1, hW1, hB01, hz01, HZ01, hc01, hh01⟩ := box_facts W #[.int .i64 m.c, .int .i64 m.d, .int .i64 m.s, .int .i64 m.e, .int .i64 m.l] 25
   have hV1 := hV.below hB01
   cases hb : begins m l
   ·have hfin : genB m 0 l = [] := by unfold genB; rw [if_neg (by rw [hb]; decide)]
    have Hf := Lib.hid hfin; clear hfin
    have Hb := Lib.hid hb; clear hb
    go_enter Tryz.func151, Tryz.ntmps151
    go_wp2_with fail
    rw [← hW1]
    go_wp2_with fail
    refine (l02Begins_b m _ l _ _ Hb.out hV1 (by omega) Hrange.out).mono ?_; rintro e' w2 ⟨rfl, hb_w2⟩; have hB2 := (Below.refl W1.heap.size W1).trans (hb_w2.mono (Below.refl W1.heap.size W1).size)
    clear hc01 hh01
    go_wp2_with fail
    go_ret
    exact ⟨ret_int (by rw [Hf.out]; rfl), hB01.trans (hB2.mono (by omega))⟩
   ·have Hb := Lib.hid hb; clear hb
    by_cases hk : (kinds l : Int) < m.l
    ·have hfin : genB m 0 l = [] := by unfold genB gen; rw [if_pos Hb.out, if_neg (by omega)]
     have Hf := Lib.hid hfin; clear hfin
     go_enter Tryz.func151, Tryz.ntmps151
     go_wp2_with fail
     rw [← hW1]
     go_wp2_with fail
     refine (l02Begins_b m _ l _ _ Hb.out hV1 (by omega) Hrange.out).mono ?_; rintro e' w2 ⟨rfl, hb_w2⟩; have hB2 := (Below.refl W1.heap.size W1).trans (hb_w2.mono (Below.refl W1.heap.size W1).size)
     have hx2 : ∀ o, (w2).cell? ⟨W.heap.size, o, none⟩ = (#[.int .i64 m.c, .int .i64 m.d, .int .i64 m.s, .int .i64 m.e, .int .i64 m.l] : Array Value)[o]? := fun o => by rw [(bcell hB2).1 _ _ hz01, hc01]
     clear hc01 hh01
     go_wp2_with fail
     go_quiet ((go_at_call 221; first | exact quiet_at (l02Kinds_q _ _ _ (V1.drewN (hV1.below hB2))) | exact quiet_at0 (l02Kinds_q _ _ _ (V1.drewN (hV1.below hB2)))))
     go_wp2_with fail
     go_ret
     exact ⟨ret_int (by rw [Hf.out]; rfl), by repeat' first | refine below_drewN ?_ _ | exact hB01.trans (hB2.mono (by omega))⟩
    ·have hfin : genB m 0 l = [l] := by unfold genB gen; rw [if_pos Hb.out, if_pos (by omega)]
     have Hf := Lib.hid hfin; clear hfin
     have hd : decide ((kinds l : Int) < m.l) = false := decide_eq_false hk
     go_enter Tryz.func151, Tryz.ntmps151
     go_wp2_with fail
     rw [← hW1]
     go_wp2_with fail
     refine (l02Begins_b m _ l _ _ Hb.out hV1 (by omega) Hrange.out).mono ?_; rintro e' w2 ⟨rfl, hb_w2⟩; have hB2 := (Below.refl W1.heap.size W1).trans (hb_w2.mono (Below.refl W1.heap.size W1).size)
     have hx2 : ∀ o, (w2).cell? ⟨W.heap.size, o, none⟩ = (#[.int .i64 m.c, .int .i64 m.d, .int .i64 m.s, .int .i64 m.e, .int .i64 m.l] : Array Value)[o]? := fun o => by rw [(bcell hB2).1 _ _ hz01, hc01]
     clear hc01 hh01
     go_wp2_with fail
     go_quiet ((go_at_call 221; first | exact quiet_at (l02Kinds_q _ _ _ (V1.drewN (hV1.below hB2))) | exact quiet_at0 (l02Kinds_q _ _ _ (V1.drewN (hV1.below hB2)))))
     go_wp2_with fail
     go_ret
     exact ⟨ret_int (by rw [Hf.out]; rfl), by repeat' first | refine below_drewN ?_ _ | exact hB01.trans (hB2.mono (by omega))⟩
 | succ rem ih =>
   intro S v l W h hp hlr hrange
   have hV := h
   have Hrange := Lib.hid hrange; clear hrange
   have Hmk := Lib.hid hmk
   obtain ⟨a, c, rfl, hmx⟩ := h.form
   have hlen : l.length ≤ 6 ∧ rem ≤ 5 := by omega
   have hl : ¬ (l.length : Int) = m.c := by omega
   have e2 : ((l.length : Int) == m.c) = false := by simp [hl]
   have Hl := Lib.hid hl; clear hl
   have IH := Lib.hid ih; clear ih
   have Hp := Lib.hid hp; clear hp
   obtain ⟨W1, hW1, hB01, hz01, HZ01, hc01, hh01⟩ := box_facts W #[.int .i64 m.c, .int .i64 m.d, .int .i64 m.s, .int .i64 m.e, .int .i64 m.l] 25
   have hV1 := hV.below hB01
   cases hb : begins m l
   ·have hfin : genB m (rem + 1) l = [] := by unfold genB; rw [if_neg (by rw [hb]; decide)]
    have Hf := Lib.hid hfin; clear hfin
    have Hb := Lib.hid hb; clear hb hlr hmk
    go_enter Tryz.func151, Tryz.ntmps151
    go_wp2_with fail
    rw [← hW1]
    go_wp2_with fail
    refine (l02Begins_b m _ l _ _ Hb.out hV1 (by omega) Hrange.out).mono ?_; rintro e' w2 ⟨rfl, hb_w2⟩; have hB2 := (Below.refl W1.heap.size W1).trans (hb_w2.mono (Below.refl W1.heap.size W1).size)
    clear hc01 hh01
    go_wp2_with fail
    go_ret
    exact ⟨ret_int (by rw [Hf.out]; rfl), hB01.trans (hB2.mono (by omega))⟩
   ·have hfin : (genB m (rem + 1) l).length = cntTo m rem l m.d.toNat := by rw [genB_succ hb]; rfl
    have Hf := Lib.hid hfin; clear hfin
    have Hb := Lib.hid hb; clear hb
    have Hlr := Lib.hid hlr; clear hlr
    obtain ⟨d, hd1, hd2, hd8, hdn⟩ : ∃ d : Nat, m.d ≤ d ∧ (d : Int) ≤ m.d ∧ d ≤ 8 ∧ m.d.toNat = d := ⟨m.d.toNat, by omega, by omega, by omega, rfl⟩
    have hcb := cntTo_le (m := m) (by omega) rem l (by omega)
    have hgb := fun x : Nat => genB_le (m := m) (by omega) rem (l ++ [(x : Int)]) (by omega)
    have Hcb := Lib.hid hcb; clear hcb
    have Hgb := Lib.hid hgb; clear hgb
    have Hdn := Lib.hid hdn; clear hdn
    clear hmk
    have Hm := Lib.hid hm; clear hm
    go_enter Tryz.func151, Tryz.ntmps151
    go_wp2_with fail
    rw [← hW1]
    go_wp2_with fail
    refine (l02Begins_b m _ l _ _ Hb.out hV1 (by omega) Hrange.out).mono ?_; rintro e' w2 ⟨rfl, hb_w2⟩; have hB2 := (Below.refl W1.heap.size W1).trans (hb_w2.mono (Below.refl W1.heap.size W1).size)
    have hx2 : ∀ o, (w2).cell? ⟨W.heap.size, o, none⟩ = (#[.int .i64 m.c, .int .i64 m.d, .int .i64 m.s, .int .i64 m.e, .int .i64 m.l] : Array Value)[o]? := fun o => by rw [(bcell hB2).1 _ _ hz01, hc01]
    have Hc01 := Lib.hid hc01; clear hc01
    have HW1 := Lib.hid hW1; clear hW1
    clear hh01
    go_wp2_with fail
    have Hx2 := Lib.hid hx2; clear hx2
    go_loopw [5, 6] (fun s i wr => ∃ x : Nat, x ≤ d ∧ i = .int .i64 (x : Int) ∧ s = .int .i64 (cntTo m rem l x : Int) ∧ Below W1.heap.size W1 wr) (fun _ i _ => d - (intOf i).toNat)
    case atStart => exact ⟨0, Nat.zero_le _, rfl, by simp [cntTo, depths], hB2⟩
    case round =>
     obtain ⟨x, hx, rfl, rfl, hB⟩ := hrel
     have hxr : ∀ o, wr.cell? ⟨W.heap.size, o, none⟩ = (#[.int .i64 m.c, .int .i64 m.d, .int .i64 m.s, .int .i64 m.e, .int .i64 m.l] : Array Value)[o]? := fun o => by rw [(bcell hB).1 _ _ hz01, Hc01.out]
     have hcx := Hcb.out x
     have hzr := hB.size
     by_cases hxx : x < d
     ·have hg1 := Hgb.out x
      have hw : IntKind.i64.wrap ((cntTo m rem l x : Int) + ((genB m rem (l ++ [(x : Int)])).length : Int)) = (cntTo m rem l x : Int) + ((genB m rem (l ++ [(x : Int)])).length : Int) := IntWalk.i64_in _ (by omega)
      have hcell0 := hxr 0
      have hcell1 := hxr 1
      have hcell2 := hxr 2
      have hcell3 := hxr 3
      have hcell4 := hxr 4
      simp at hcell0 hcell1 hcell2 hcell3 hcell4
      have Hxr := Lib.hid hxr
      have hbB : W.heap.size < wr.heap.size := by omega
      go_wp2_with fail
      go_region_held3 (fun w' => w'.cell? ⟨W.heap.size, 0, none⟩ = some (.int .i64 m.c) ∧ w'.cell? ⟨W.heap.size, 1, none⟩ = some (.int .i64 m.d) ∧ w'.cell? ⟨W.heap.size, 2, none⟩ = some (.int .i64 m.s) ∧ w'.cell? ⟨W.heap.size, 3, none⟩ = some (.int .i64 m.e) ∧ w'.cell? ⟨W.heap.size, 4, none⟩ = some (.int .i64 m.l) ∧ Below wr.heap.size wr w')
       (first | exact ⟨hcell0, hcell1, hcell2, hcell3, hcell4, (Below.refl _ _).drew⟩ | exact mkB_call hbB (by assumption) (by assumption) | exact mkB_alloc hbB (by assumption) _ | exact mkB_grown hbB (by assumption) (by assumption) (own_lo hown1 (Nat.le_refl _)))
       (first | (go_at_call 136; refine (l01Own_any _ l _ (hV1.below (hB.trans ((mkB_below (by assumption)).mono hzr))) Hp.out (by omega)).mono ?_; rintro e' w' ⟨v1, rfl, hown0, hb⟩; have hzz := Nat.le_trans (mkB_size (by assumption)) hb.size; have hown1 := own_base hown0 (mkB_size (by assumption)); clear hown0) | (refine step_append_lies _ (by rfl) _ _ _ (by rfl) wr.heap.size 2 i0 _ 1 8 Tryz.underlying35 hi hz0 hz1 hz2 rfl (by omega) _ l.length _ (by rfl) (hown1.alloc _) ⟨_, 0, none⟩ 1 1 [.int .i64 x] (by rfl) (by rfl) (World.news_of_block (heap_alloc_new _ _)) (by simp [Value.oneCell']) (by omega) (by unfold maxLen; omega) (by omega) (by simp; omega) _ rfl ?_; intro gg cap w1 hown2 hgrow hat hlt) | (refine step_append_lies _ (by rfl) _ _ _ (by rfl) wr.heap.size 2 i0 _ 1 8 Tryz.underlying35 hi hz0 hz1 hz2 rfl (by omega) _ l.length _ (by rfl) hown1 ⟨_, 0, none⟩ 1 1 [.int .i64 x] (by rfl) (by rfl) (news_old hb) (by simp [Value.oneCell']) (by omega) (by unfold maxLen; omega) (by omega) (by omega) _ rfl ?_; intro gg cap w1 hown2 hgrow hat hlt) | (go_at_call 151; refine (IH.out _ _ (l ++ [(x : Int)]) _ (own_V1T (by assumption) (by simp)) (fun h => by simp at h) (by have := Hlr.out; simp; omega) (range_snoc Hrange.out (by omega))).mono ?_; rintro e' w' ⟨rfl, hb⟩))
      all_goals
       have hBw := mkB_below (w0 := wr) (by assumption)
       go_wp2_with fail
       go_roundw
       case rel => exact ⟨x + 1, by omega, by go_num, by rw [cntTo_succ]; go_num, hB.trans (hBw.mono hzr)⟩
       case measure => simp [intOf]; omega
     ·have hfx : cntTo m rem l x = (genB m (rem + 1) l).length := by rw [Hf.out, Hdn.out, show x = d from by omega]
      have Hfx := Lib.hid hfx; clear hfx
      go_wp2_with fail
      go_ret
      exact ⟨ret_int (by rw [Hfx.out]), hB01.trans (hB.mono (by omega))⟩
theorem one_keep {b : Nat} {w0 w w' : World} {cs : Array Value} (hb1 : b < w0.heap.size) (h : (∀ o, w.cell? ⟨b, o, none⟩ = cs[o]?) ∧ Below w0.heap.size w0 w) (hb : Below w.heap.size w w') :
  (∀ o, w'.cell? ⟨b, o, none⟩ = cs[o]?) ∧ Below w0.heap.size w0 w' := by
 obtain ⟨h1, h3⟩ := h
 have := h3.size
 exact ⟨fun o => by rw [(bcell hb).1 _ _ (by omega), h1], h3.trans (hb.mono h3.size)⟩
theorem one_below {b : Nat} {w0 w : World} {cs : Array Value} (h : (∀ o, w.cell? ⟨b, o, none⟩ = cs[o]?) ∧ Below w0.heap.size w0 w) : Below w0.heap.size w0 w := h.2
theorem genF_length {m : Mk} {A : Nat → Int → Bool} {fr : List Int} (D : Nat) (hd : m.d.toNat ≤ D) : ∀ (rem : Nat) (t : Bool) (pre : List Int), (genF m A fr t rem pre).length ≤ D ^ rem
 | 0, t, pre => by unfold genF; split <;> simp
 | rem + 1, t, pre => by
   rw [genF_succ, List.length_flatMap]
   have : ∀ (l : List Int), (l.map fun x => (brF m A fr t rem pre x).length).sum ≤ l.length * D ^ rem := by
    intro l
    induction l with
    | nil => simp
    | cons x l ih =>
      simp only [List.map_cons, List.sum_cons, List.length_cons, Nat.succ_mul]
      have hx : (brF m A fr t rem pre x).length ≤ D ^ rem := by
       unfold brF; split
       ·exact genF_length D hd rem _ _
       ·simp
      omega
   refine Nat.le_trans (this _) ?_
   have hlen : (depths (lowF fr t pre.length) m.d.toNat).length ≤ m.d.toNat := by simp [depths]
   rw [Nat.pow_succ, Nat.mul_comm]
   exact Nat.mul_le_mul_left _ (Nat.le_trans hlen hd)
/-- All keys whose cuts are allowed. -/
def keysA (m : Mk) (A : Nat → Int → Bool) : List (List Int) := genF m A [] false m.c.toNat []
theorem keysA_all (m : Mk) : keysA m (fun _ _ => true) = keysOf m := genF_free m [] _ _
theorem keysA_length {m : Mk} {A : Nat → Int → Bool} (h : m.ok = true) : (keysA m A).length ≤ 262144 := by
 have hm := Mk.ok_iff.1 h
 refine Nat.le_trans (genF_length 8 (by omega) m.c.toNat false []) ?_
 exact Nat.le_trans (Nat.pow_le_pow_right (by decide) (by omega : m.c.toNat ≤ 6)) (by decide)
theorem enters_count : Enters 233 := fun args w => by kernel_rfl
theorem count1_any (key : Value) (B : Nat) (n : Nat) (T : TypeId) (w : World) (hn : n ≤ 1000000) (hc : w.heap[B]? = some (.cells #[.int .i64 n] T (0, 0))) :
  Calls Tryz.prog 233 #[key, .pointer (some ⟨B, 0, none⟩)] w fun e w' => e = .returned (.bool true) ∧ w' = w.setCell ⟨B, 0, none⟩ (.int .i64 ((n + 1 : Nat) : Int)) := by
 have hc1 := cell_of_block hc 0
 have hf1 := frozen_of_block hc 0
 simp at hc1
 clear hc
 go_enter Tryz.func233, Tryz.ntmps233
 go_wp2_with fail
 go_ret
 exact ⟨rfl, by go_num⟩
def cntStep (n : Nat) (k : List Int) : Nat × Bool := (n + 1, true)
theorem cntStep_run (l : List (List Int)) (n : Nat) : runL cntStep n l = (n + l.length, true) := by
 rw [runL_all cntStep (fun n _ => n + 1) (fun _ _ => rfl)]
 congr 1
 induction l generalizing n with
 | nil => rfl
 | cons k l ih => rw [List.foldl_cons, ih]; simp; omega
def CntInv (B : Nat) (n : Nat) (F : Nat → Prop) (w : World) : Prop := (∀ b, F b ↔ b = B) ∧ ∃ T, w.heap[B]? = some (.cells #[.int .i64 n] T (0, 0))
theorem cnt_ok (m : Mk) (hm : m.ok = true) (w : World) (A : Nat → Int → Bool) (B : Nat) : VisOk m.c.toNat w (fun b => b = B) 233 #[.pointer (some ⟨B, 0, none⟩)] cntStep 0 (keysA m A) (CntInv B) := by
 refine ⟨enters_count, ?_, ?_, ?_⟩
 ·rintro s F w w' ⟨h1, T, h2⟩ _ h3
  exact ⟨h1, T, by rw [h3 B ((h1 B).2 rfl), h2]⟩
 ·rintro s F w ⟨h1, T, h2⟩ b hb
  rw [(h1 b).1 hb]; exact lt_of_heap h2
 ·rintro s F S w v key done rest hL hr ⟨h1, T, h2⟩ hchg hsub hV hS hlen
  rw [cntStep_run] at hr
  have hle := keysA_length (A := A) hm
  rw [hL] at hle
  simp only [Prod.mk.injEq, and_true] at hr
  refine (count1_any v B s T w (by simp at hle; omega) h2).mono ?_
  rintro e w' ⟨rfl, rfl⟩
  refine ⟨F, rfl, ⟨h1, T, by rw [heap_setCell_self h2]; rfl⟩, (Chg.refl _ _).setCell (.inl ((h1 B).2 rfl)) _, fun b hb => .inl hb⟩
set_option maxRecDepth 100000 in
theorem countKeys_any (m : Mk) (hm : m.ok = true) (av : Value) (A : Nat → Int → Bool) (w : World) (hav : av = .nilFunc ∨ ∃ fa ac, av = .func (.func fa) #[] ac) (hA : ∀ (w2 : World) (F0 : Nat → Prop), Below w.heap.size w w2 → (∀ b, F0 b → w.heap.size ≤ b) → AOk m w2 F0 av A) :
  Calls Tryz.prog 148 #[.agg #[.int .i64 m.c, .int .i64 m.d, .int .i64 m.s, .int .i64 m.e, .int .i64 m.l], av] w fun e w' => e = .returned (.int .i64 ((keysA m A).length : Int)) ∧ Below w.heap.size w w' := by
 have hle := keysA_length (A := A) hm
 have hb2 : Below w.heap.size w ((w.alloc (.cells #[.int .i64 m.c, .int .i64 m.d, .int .i64 m.s, .int .i64 m.e, .int .i64 m.l] 25)).alloc (.cells #[.int .i64 0] 2)) := by (repeat (first | (with_reducible refine Below.setCell ?_ ?_ _) | (with_reducible refine Below.alloc ?_ ?_ _) | (with_reducible refine Below.drew ?_) | (with_reducible refine below_drewN ?_ _) | (with_reducible exact Below.refl _ _) | (with_reducible assumption) | (with_reducible refine Below.trans ?_ (Below.mono (by with_reducible assumption) ?_)) | go_size))
 have hA2 := hA _ (fun b => b = w.heap.size + 1) hb2 (fun b hb => by omega)
 have hV := cnt_ok m hm ((w.alloc (.cells #[.int .i64 m.c, .int .i64 m.d, .int .i64 m.s, .int .i64 m.e, .int .i64 m.l] 25)).alloc (.cells #[.int .i64 0] 2)) A (w.heap.size + 1)
 have hI : CntInv (w.heap.size + 1) 0 (fun b => b = w.heap.size + 1) ((w.alloc (.cells #[.int .i64 m.c, .int .i64 m.d, .int .i64 m.s, .int .i64 m.e, .int .i64 m.l] 25)).alloc (.cells #[.int .i64 0] 2)) := ⟨fun b => Iff.rfl, 2, by rw [heap_alloc_at]; simp⟩
 have HA := Lib.hid hA2; clear hA hA2
 have HV := Lib.hid hV; clear hV
 have HI := Lib.hid hI; clear hI
 have Hb := Lib.hid hb2; clear hb2
 rcases hav with rfl | ⟨fa, ac, rfl⟩
 all_goals
  go_enter Tryz.func148, Tryz.ntmps148
  go_wp2_with fail
  refine (eachKey_any hm _ HV.out HA.out HI.out).mono ?_
  rintro e w' ⟨F', ⟨hF, T, hc⟩, hchg, hsub, rfl⟩
  have hrun : (runL cntStep 0 (genF m A [] false m.c.toNat [])).1 = (keysA m A).length := by
   show (runL cntStep 0 (keysA m A)).1 = _
   rw [cntStep_run]; simp
  rw [hrun] at hc
  have hc1 := cell_of_block hc 0
  simp at hc1
  have Hchg := Lib.hid hchg; clear hchg hc hrun
  go_wp2_with fail
  go_ret
  exact ⟨rfl, Hb.out.trans (Hchg.out.to_below (fun i hi => by omega) (by simp; omega))⟩
/-- The answer on spare keys. -/
def spareAns (m : Mk) (t : List (List Int)) : Int × Int := if isSys m t = true then (((keysOf m).length : Int) - (diffR t : Int), 0) else (0, 1)
theorem diffR_le (t : List (List Int)) : diffR t ≤ t.length := diffTo_le t _
theorem l20Different_w {S : Nat → Prop} (v : Value) (t : List (List Int)) (W : World) (h : V2 S W v t) :
  Calls Tryz.prog 152 #[v] W fun e' w' => e' = .returned (.int .i64 (diffR t)) ∧ Below W.heap.size W w' :=
 (l20Different_q v t W h).mono fun _ _ ⟨h1, n, h2⟩ => ⟨h1, by rw [h2]; exact below_drewN (Below.refl _ _) n⟩
theorem isSys_parts {m : Mk} {t : List (List Int)} (h : isSys m t = true) : m.ok = true ∧ isTab t = true ∧ upAll (doorOpen t) (getl t 0).length 0 = true := by
 simp only [isSys, Bool.and_eq_true] at h; exact ⟨h.1, h.2.1, h.2.2⟩
theorem countAll_any (m : Mk) (hm : m.ok = true) (w : World) :
  Calls Tryz.prog 148 #[.agg #[.int .i64 m.c, .int .i64 m.d, .int .i64 m.s, .int .i64 m.e, .int .i64 m.l], .nilFunc] w fun e w' => e = .returned (.int .i64 ((keysOf m).length : Int)) ∧ Below w.heap.size w w' := by
 have := countKeys_any m hm .nilFunc (fun _ _ => true) w (.inl rfl) (fun _ _ _ _ => .inl ⟨rfl, fun _ _ => rfl⟩)
 rw [keysA_all] at this
 exact this
theorem countAllR_any (m : Mk) (hm : m.ok = true) (w : World) :
  Calls Tryz.prog 151 #[.agg #[.int .i64 m.c, .int .i64 m.d, .int .i64 m.s, .int .i64 m.e, .int .i64 m.l], .slice none 0 0] w fun e w' => e = .returned (.int .i64 ((keysOf m).length : Int)) ∧ Below w.heap.size w w' := by
 have hmk := Mk.ok_iff.1 hm
 have := l02Count_any m hm m.c.toNat (fun _ => True) (.slice none 0 0) [] w ⟨none, 0, rfl, Nat.le_refl _, Nat.zero_le _, fun k hk => by simp at hk⟩ (fun _ => .inl rfl) (by simp; omega) (fun k hk => by simp at hk)
 rw [genB_nil] at this
 exact this
set_option maxRecDepth 100000 in
theorem SpareKeys_any {S : Nat → Prop} (m : Mk) (u : Value) (t : List (List Int)) (W : World) (h : V2 S W u t) :
  Calls Tryz.prog 47 #[.agg #[.int .i64 m.c, .int .i64 m.d, .int .i64 m.s, .int .i64 m.e, .int .i64 m.l, u]] W fun e' w' => e' = .returned (.tuple #[.int .i64 (spareAns m t).1, .int .i64 (spareAns m t).2]) ∧ Below W.heap.size W w' := by
 have hV := h
 obtain ⟨a, c, rfl, hmx⟩ := h.form
 obtain ⟨W1, hW1, hB01, hz01, HZ01, hc01, hh01⟩ := box_facts W #[.int .i64 m.c, .int .i64 m.d, .int .i64 m.s, .int .i64 m.e, .int .i64 m.l, .slice a t.length c] 28
 have hV1 : V2 (fun _ => True) W1 (.slice a t.length c) t := (hV.below hB01).mono (fun _ _ _ => trivial) (fun _ _ _ => rfl)
 cases hs : isSys m t
 ·have hfin : spareAns m t = (0, 1) := by rw [spareAns, if_neg (by rw [hs]; decide)]
  rw [hfin]
  have Hs := Lib.hid hs; clear hs
  go_enter Tryz.func47, Tryz.ntmps47
  go_wp2_with fail
  rw [← hW1]
  refine (isSystem_b m _ t _ _ Hs.out hV1).mono ?_
  rintro e' w2 ⟨rfl, hb2⟩
  clear hc01 hh01
  go_wp2_with fail
  go_ret2
  exact ⟨rfl, hB01.trans (hb2.mono (by omega))⟩
 ·have hfin : spareAns m t = (((keysOf m).length : Int) - (diffR t : Int), 0) := by rw [spareAns, if_pos hs]
  rw [hfin]
  obtain ⟨hok, htab, _⟩ := isSys_parts hs
  have hkl := keysOf_length hok
  have hdl := diffR_le t
  have Hs := Lib.hid hs; clear hs
  have Hok := Lib.hid hok; clear hok
  have htl := (isTab_iff.1 htab).1
  clear htab hfin
  have hw : IntKind.i64.wrap (((keysOf m).length : Int) - (diffR t : Int)) = ((keysOf m).length : Int) - (diffR t : Int) := IntWalk.i64_in _ (by omega)
  go_enter Tryz.func47, Tryz.ntmps47
  go_wp2_with fail
  rw [← hW1]
  refine (isSystem_b m _ t _ _ Hs.out hV1).mono ?_
  rintro e' w2 ⟨rfl, hb2⟩
  have hx2 : ∀ o, w2.cell? ⟨W.heap.size, o, none⟩ = (#[.int .i64 m.c, .int .i64 m.d, .int .i64 m.s, .int .i64 m.e, .int .i64 m.l, .slice a t.length c] : Array Value)[o]? := fun o => by rw [(bcell hb2).1 _ _ hz01, hc01]
  have hV2 := hV1.below hb2
  have hz2 : W.heap.size < w2.heap.size := by have := hb2.size; omega
  have HW1 := Lib.hid hW1; clear hW1
  clear hc01 hh01
  go_wp2_with fail
  go_region_held3 (fun w' => (∀ o, w'.cell? ⟨W.heap.size, o, none⟩ = (#[.int .i64 m.c, .int .i64 m.d, .int .i64 m.s, .int .i64 m.e, .int .i64 m.l, .slice a t.length c] : Array Value)[o]?) ∧ Below w2.heap.size w2 w')
   (first | exact one_keep (by assumption) (by assumption) (by assumption) | exact ⟨hx2, (Below.refl _ _).drew⟩)
   (first | (go_at_call 148; refine (countAll_any m Hok.out _).mono ?_; rintro e' w' ⟨rfl, hb⟩) | (go_at_call 149; refine (differentRows_any (S := fun _ => True) _ t _ (hV2.below (one_below (by assumption)))).mono ?_; rintro e' w' ⟨rfl, hb⟩))
  have hBw := one_below (w0 := w2) (by assumption)
  go_wp2_with fail
  go_ret2
  exact ⟨rfl, hB01.trans ((hb2.trans (hBw.mono hb2.size)).mono (by omega))⟩
set_option maxRecDepth 100000 in
theorem SpareKeysR_any {S : Nat → Prop} (m : Mk) (u : Value) (t : List (List Int)) (W : World) (h : V2 S W u t) :
  Calls Tryz.prog 48 #[.agg #[.int .i64 m.c, .int .i64 m.d, .int .i64 m.s, .int .i64 m.e, .int .i64 m.l, u]] W fun e' w' => e' = .returned (.tuple #[.int .i64 (spareAns m t).1, .int .i64 (spareAns m t).2]) ∧ Below W.heap.size W w' := by
 have hV := h
 obtain ⟨a, c, rfl, hmx⟩ := h.form
 obtain ⟨W1, hW1, hB01, hz01, HZ01, hc01, hh01⟩ := box_facts W #[.int .i64 m.c, .int .i64 m.d, .int .i64 m.s, .int .i64 m.e, .int .i64 m.l, .slice a t.length c] 28
 have hV1 : V2 (fun _ => True) W1 (.slice a t.length c) t := (hV.below hB01).mono (fun _ _ _ => trivial) (fun _ _ _ => rfl)
 cases hs : isSys m t
 ·have hfin : spareAns m t = (0, 1) := by rw [spareAns, if_neg (by rw [hs]; decide)]
  rw [hfin]
  have Hs := Lib.hid hs; clear hs
  go_enter Tryz.func48, Tryz.ntmps48
  go_wp2_with fail
  rw [← hW1]
  refine (isSystemR_b m _ t _ _ Hs.out hV1).mono ?_
  rintro e' w2 ⟨rfl, hb2⟩
  clear hc01 hh01
  go_wp2_with fail
  go_ret2
  exact ⟨rfl, hB01.trans (hb2.mono (by omega))⟩
 ·have hfin : spareAns m t = (((keysOf m).length : Int) - (diffR t : Int), 0) := by rw [spareAns, if_pos hs]
  rw [hfin]
  obtain ⟨hok, htab, _⟩ := isSys_parts hs
  have hkl := keysOf_length hok
  have hdl := diffR_le t
  have Hs := Lib.hid hs; clear hs
  have Hok := Lib.hid hok; clear hok
  have htl := (isTab_iff.1 htab).1
  clear htab hfin
  have hw : IntKind.i64.wrap (((keysOf m).length : Int) - (diffR t : Int)) = ((keysOf m).length : Int) - (diffR t : Int) := IntWalk.i64_in _ (by omega)
  go_enter Tryz.func48, Tryz.ntmps48
  go_wp2_with fail
  rw [← hW1]
  refine (isSystemR_b m _ t _ _ Hs.out hV1).mono ?_
  rintro e' w2 ⟨rfl, hb2⟩
  have hx2 : ∀ o, w2.cell? ⟨W.heap.size, o, none⟩ = (#[.int .i64 m.c, .int .i64 m.d, .int .i64 m.s, .int .i64 m.e, .int .i64 m.l, .slice a t.length c] : Array Value)[o]? := fun o => by rw [(bcell hb2).1 _ _ hz01, hc01]
  have hV2 := hV1.below hb2
  have hz2 : W.heap.size < w2.heap.size := by have := hb2.size; omega
  have HW1 := Lib.hid hW1; clear hW1
  clear hc01 hh01
  go_wp2_with fail
  go_region_held3 (fun w' => (∀ o, w'.cell? ⟨W.heap.size, o, none⟩ = (#[.int .i64 m.c, .int .i64 m.d, .int .i64 m.s, .int .i64 m.e, .int .i64 m.l, .slice a t.length c] : Array Value)[o]?) ∧ Below w2.heap.size w2 w')
   (first | exact one_keep (by assumption) (by assumption) (by assumption) | exact ⟨hx2, (Below.refl _ _).drew⟩)
   (first | (go_at_call 151; refine (countAllR_any m Hok.out _).mono ?_; rintro e' w' ⟨rfl, hb⟩) | (go_at_call 152; refine (l20Different_w (S := fun _ => True) _ t _ (hV2.below (one_below (by assumption)))).mono ?_; rintro e' w' ⟨rfl, hb⟩))
  have hBw := one_below (w0 := w2) (by assumption)
  go_wp2_with fail
  go_ret2
  exact ⟨rfl, hB01.trans ((hb2.trans (hBw.mono hb2.size)).mono (by omega))⟩
theorem one1_keep {b b' off : Nat} {w0 w w' : World} {cs : Array Value} {v : Value} (hb1 : b < w0.heap.size ∧ b' < w0.heap.size) (h : (∀ o, w.cell? ⟨b, o, none⟩ = cs[o]?) ∧ w.cell? ⟨b', off, none⟩ = some v ∧ Below w0.heap.size w0 w) (hb : Below w.heap.size w w') :
  (∀ o, w'.cell? ⟨b, o, none⟩ = cs[o]?) ∧ w'.cell? ⟨b', off, none⟩ = some v ∧ Below w0.heap.size w0 w' := by
 obtain ⟨h1, h2, h3⟩ := h
 have := h3.size
 exact ⟨fun o => by rw [(bcell hb).1 _ _ (by omega), h1], by rw [(bcell hb).1 _ _ (by omega), h2], h3.trans (hb.mono h3.size)⟩
theorem one1_below {b b' off : Nat} {w0 w : World} {cs : Array Value} {v : Value} (h : (∀ o, w.cell? ⟨b, o, none⟩ = cs[o]?) ∧ w.cell? ⟨b', off, none⟩ = some v ∧ Below w0.heap.size w0 w) : Below w0.heap.size w0 w := h.2.2
def allKeys (m : Mk) (cuts : List (List Int)) : Bool := cuts.all (isKeyB m)
theorem allKeys_iff {m : Mk} {l : List (List Int)} : allKeys m l = true ↔ ∀ k, k < l.length → isKeyB m (getl l k) = true := by
 simp only [allKeys, List.all_eq_true]
 constructor
 ·intro h k hk; exact h _ (getl_mem hk)
 ·intro h x hx
  obtain ⟨k, hk, rfl⟩ := List.getElem_of_mem hx
  have := h k hk
  rwa [getl_eq hk] at this
theorem any_notKey (m : Mk) (l : List (List Int)) : (l.any fun x => !isKeyB m x) = !allKeys m l := by
 unfold allKeys; induction l with
 | nil => rfl
 | cons x l ih => simp [ih]
theorem enters_areKeys : Enters 261 := fun args w => by kernel_rfl
theorem areKeys1_any {S : Nat → Prop} (m : Mk) (hm : m.ok = true) (v : Value) (l : List Int) (b : Nat) (W : World) (h : V1 S W v l) (hc : ∀ o, W.cell? ⟨b, o, none⟩ = (#[.int .i64 m.c, .int .i64 m.d, .int .i64 m.s, .int .i64 m.e, .int .i64 m.l] : Array Value)[o]?) :
  Calls Tryz.prog 261 #[v, .pointer (some ⟨b, 0, none⟩)] W fun e' w' => e' = .returned (.bool (!isKeyB m l)) ∧ Below W.heap.size W w' := by
 obtain ⟨a, c, rfl, hmx⟩ := h.form
 cases hk : isKeyB m l
 all_goals
  have Hk := Lib.hid hk; clear hk
  go_enter Tryz.func261, Tryz.ntmps261
  go_wp2_with fail
  refine (isKey_b m _ l _ _ Hk.out hm h).mono ?_
  rintro e' w' ⟨rfl, hb⟩
  clear hc
  go_wp2_with fail
  go_ret
  exact ⟨rfl, hb⟩
theorem areKeys_any {S : Nat → Prop} (m : Mk) (hm : m.ok = true) (v : Value) (ls : List (List Int)) (W : World) (h : V2 S W v ls) :
  Calls Tryz.prog 212 #[.agg #[.int .i64 m.c, .int .i64 m.d, .int .i64 m.s, .int .i64 m.e, .int .i64 m.l], v] W fun e' w' => e' = .returned (.bool (allKeys m ls)) ∧ Below W.heap.size W w' := by
 have hk := any_notKey m ls
 have Hk := Lib.hid hk; clear hk
 obtain ⟨W1, hW1, hB01, hz01, HZ01, hc01, hh01⟩ := box_facts W #[.int .i64 m.c, .int .i64 m.d, .int .i64 m.s, .int .i64 m.e, .int .i64 m.l] 25
 have hV := h.below hB01
 obtain ⟨a, c, rfl, hmx⟩ := h.form
 cases hkk : allKeys m ls
 all_goals
  have Hkk := Lib.hid hkk; clear hkk
  go_enter Tryz.func212, Tryz.ntmps212
  go_wp2_with fail
  rw [← hW1]
  refine (containsFunc_any (S := S) _ ls _ _ (fun o => !isKeyB m o) _ hV enters_areKeys ?_).mono ?_
  ·intro S2 w v2 l hb hv
   exact areKeys1_any m hm v2 l W.heap.size w hv (fun o => by rw [(bcell hb).1 _ _ hz01, hc01])
  ·rintro e' w' ⟨rfl, hb⟩
   clear hc01 hh01
   rw [Hk.out, Hkk.out]
   go_wp2_with fail
   go_ret
   exact ⟨rfl, hB01.trans (hb.mono (by omega))⟩
theorem areKeys_b {S : Nat → Prop} (m : Mk) (hm : m.ok = true) (v : Value) (ls : List (List Int)) (W : World) (r : Bool) (hr : allKeys m ls = r) (h : V2 S W v ls) :
  Calls Tryz.prog 212 #[.agg #[.int .i64 m.c, .int .i64 m.d, .int .i64 m.s, .int .i64 m.e, .int .i64 m.l], v] W fun e' w' => e' = .returned (.bool r) ∧ Below W.heap.size W w' := by subst hr; exact areKeys_any m hm v ls W h
/-- The code of a system and partial cuts. -/
def partC (m : Mk) (t cuts : List (List Int)) : Int := if isSys m t = false then 1 else if t.length < cuts.length then 2 else if allKeys m cuts = false then 2 else 0
theorem partC_ok {m : Mk} {t cuts : List (List Int)} : partC m t cuts = 0 ↔ isSys m t = true ∧ cuts.length ≤ t.length ∧ allKeys m cuts = true := by
 unfold partC
 cases isSys m t <;> cases allKeys m cuts <;> simp <;> split <;> simp_all <;> omega
set_option maxRecDepth 100000 in
theorem partCode_any {S S' : Nat → Prop} (m : Mk) (u v : Value) (t cuts : List (List Int)) (W : World) (h : V2 S W u t) (hc : V2 S' W v cuts) :
  Calls Tryz.prog 126 #[.agg #[.int .i64 m.c, .int .i64 m.d, .int .i64 m.s, .int .i64 m.e, .int .i64 m.l, u], v] W fun e' w' => e' = .returned (.int .i64 (partC m t cuts)) ∧ Below W.heap.size W w' := by
 obtain ⟨a, c, rfl, hmx⟩ := h.form
 obtain ⟨a', c', rfl, hmx'⟩ := hc.form
 obtain ⟨W1, hW1, hB01, hz01, HZ01, hc01, hh01⟩ := box_facts W #[.int .i64 m.c, .int .i64 m.d, .int .i64 m.s, .int .i64 m.e, .int .i64 m.l, .slice a t.length c] 28
 have hV1 : V2 (fun _ => True) W1 (.slice a t.length c) t := (h.below hB01).mono (fun _ _ _ => trivial) (fun _ _ _ => rfl)
 have hC1 : V2 (fun _ => True) W1 (.slice a' cuts.length c') cuts := (hc.below hB01).mono (fun _ _ _ => trivial) (fun _ _ _ => rfl)
 cases hs : isSys m t
 ·have hfin : partC m t cuts = 1 := by unfold partC; rw [if_pos hs]
  rw [hfin]
  have Hs := Lib.hid hs; clear hs
  go_enter Tryz.func126, Tryz.ntmps126
  go_wp2_with fail
  rw [← hW1]
  refine (isSystem_b m _ t _ _ Hs.out hV1).mono ?_
  rintro e' w2 ⟨rfl, hb2⟩
  clear hc01 hh01
  go_wp2_with fail
  go_ret
  exact ⟨rfl, hB01.trans (hb2.mono (by omega))⟩
 ·obtain ⟨hok, htab, _⟩ := isSys_parts hs
  have htl := (isTab_iff.1 htab).1
  clear htab
  by_cases hl : t.length < cuts.length
  ·have hfin : partC m t cuts = 2 := by unfold partC; rw [if_neg (by rw [hs]; decide), if_pos hl]
   rw [hfin]
   have Hs := Lib.hid hs; clear hs hok hfin
   go_enter Tryz.func126, Tryz.ntmps126
   go_wp2_with fail
   rw [← hW1]
   refine (isSystem_b m _ t _ _ Hs.out hV1).mono ?_
   rintro e' w2 ⟨rfl, hb2⟩
   have hx2 : ∀ o, w2.cell? ⟨W.heap.size, o, none⟩ = (#[.int .i64 m.c, .int .i64 m.d, .int .i64 m.s, .int .i64 m.e, .int .i64 m.l, .slice a t.length c] : Array Value)[o]? := fun o => by rw [(bcell hb2).1 _ _ hz01, hc01]
   clear hc01 hh01
   go_wp2_with fail
   go_ret
   exact ⟨rfl, hB01.trans (hb2.mono (by omega))⟩
  ·have hd : decide (t.length < cuts.length) = false := decide_eq_false hl
   cases hk : allKeys m cuts
   ·have hfin : partC m t cuts = 2 := by unfold partC; rw [if_neg (by rw [hs]; decide), if_neg hl, if_pos hk]
    rw [hfin]
    have Hs := Lib.hid hs; clear hs hfin
    have Hk := Lib.hid hk; clear hk
    have Hok := Lib.hid hok; clear hok
    go_enter Tryz.func126, Tryz.ntmps126
    go_wp2_with fail
    rw [← hW1]
    refine (isSystem_b m _ t _ _ Hs.out hV1).mono ?_
    rintro e' w2 ⟨rfl, hb2⟩
    have hx2 : ∀ o, w2.cell? ⟨W.heap.size, o, none⟩ = (#[.int .i64 m.c, .int .i64 m.d, .int .i64 m.s, .int .i64 m.e, .int .i64 m.l, .slice a t.length c] : Array Value)[o]? := fun o => by rw [(bcell hb2).1 _ _ hz01, hc01]
    clear hc01 hh01
    go_wp2_with (refine (areKeys_b m Hok.out _ cuts _ _ Hk.out (hC1.below hb2) ).mono ?_; rintro e' w' ⟨rfl, hb3⟩)
    go_ret
    exact ⟨rfl, hB01.trans ((hb2.trans (hb3.mono hb2.size)).mono (by omega))⟩
   ·have hfin : partC m t cuts = 0 := by unfold partC; rw [if_neg (by rw [hs]; decide), if_neg hl, if_neg (by rw [hk]; decide)]
    rw [hfin]
    have Hs := Lib.hid hs; clear hs hfin
    have Hk := Lib.hid hk; clear hk
    have Hok := Lib.hid hok; clear hok
    go_enter Tryz.func126, Tryz.ntmps126
    go_wp2_with fail
    rw [← hW1]
    refine (isSystem_b m _ t _ _ Hs.out hV1).mono ?_
    rintro e' w2 ⟨rfl, hb2⟩
    have hx2 : ∀ o, w2.cell? ⟨W.heap.size, o, none⟩ = (#[.int .i64 m.c, .int .i64 m.d, .int .i64 m.s, .int .i64 m.e, .int .i64 m.l, .slice a t.length c] : Array Value)[o]? := fun o => by rw [(bcell hb2).1 _ _ hz01, hc01]
    clear hc01 hh01
    go_wp2_with (refine (areKeys_b m Hok.out _ cuts _ _ Hk.out (hC1.below hb2) ).mono ?_; rintro e' w' ⟨rfl, hb3⟩)
    go_ret
    exact ⟨rfl, hB01.trans ((hb2.trans (hb3.mono hb2.size)).mono (by omega))⟩
theorem fits_of {m : Mk} {t cuts : List (List Int)} (h : partC m t cuts = 0) : Fits m t cuts := by
 obtain ⟨h1, h2, h3⟩ := partC_ok.1 h
 obtain ⟨hok, htab, _⟩ := isSys_parts h1
 obtain ⟨htl, htr⟩ := isTab_iff.1 htab
 have hk := allKeys_iff.1 h3
 exact ⟨hok, htl, fun k hk => (htr k hk).1, (htr 0 (by omega)).2.1, fun k hk => (htr k hk).2.2, h2, hk, fun k hkk => (isKey_iff.1 (hk k hkk)).1, fun k hkk c hc => (isKey_iff.1 (hk k hkk)).2.1 _ (geti_mem hc)⟩
/-- The code of a system and cuts for all rows. -/
def cutC (m : Mk) (t cuts : List (List Int)) : Int := if isSys m t = false then 1 else if cuts.length ≠ t.length then 2 else if allKeys m cuts = false then 2 else 0
theorem cutC_ok {m : Mk} {t cuts : List (List Int)} : cutC m t cuts = 0 ↔ isSys m t = true ∧ cuts.length = t.length ∧ allKeys m cuts = true := by
 unfold cutC
 cases isSys m t <;> cases allKeys m cuts <;> simp
/-- A design: cuts of all rows without false openings. -/
def designB (m : Mk) (t cuts : List (List Int)) : Bool := decide (cutC m t cuts = 0) && decide ((falseL m.c.toNat t cuts).length = 0)
theorem designB_ok {m : Mk} {t cuts : List (List Int)} : designB m t cuts = true ↔ cutC m t cuts = 0 ∧ (falseL m.c.toNat t cuts).length = 0 := by
 unfold designB; simp
theorem mc_nat {m : Mk} (h : m.ok = true) : ((m.c.toNat : Nat) : Int) = m.c := by have := Mk.ok_iff.1 h; omega
/-- The first of a list, and whether there is one. -/
def nextAns : List (List Int) → List Int × Bool
 | [] => ([], false)
 | k :: _ => (k, true)
theorem nextAns_append (a b : List (List Int)) : nextAns (a ++ b) = if (nextAns a).2 = true then nextAns a else nextAns b := by
 cases a <;> simp [nextAns]
theorem nextAns_true {l : List (List Int)} (h : (nextAns l).2 = true) : ∃ k r, l = k :: r := by
 cases l with
 | nil => cases h
 | cons k r => exact ⟨k, r, rfl⟩
section
variable {σ : Type} {m : Mk} {W0 : World} {F0 : Nat → Prop} {f : FuncId} {caps : Array Value} {step : σ → List Int → List Int → σ × Bool} {s0 : σ} {L : List (List Int)} {cuts : List (List Int)} {locks : List (List (List Int))} {Inv : σ → (Nat → Prop) → World → Prop}
end
/-- Block G holds the numbers l and nothing else. -/
def BlkI (w : World) (G : Nat) (l : List Int) : Prop := ∃ T, w.heap[G]? = some (.cells (l.map (Value.int .i64)).toArray T (0, 0))
theorem BlkI.cell {w : World} {G k : Nat} {l : List Int} (h : BlkI w G l) (hk : k < l.length) : w.cell? ⟨G, k, none⟩ = some (.int .i64 (geti l k)) := by
 obtain ⟨T, h⟩ := h
 rw [cell_of_block h, geti_eq hk]
 simp [hk]
theorem BlkI.frozen {w : World} {G : Nat} {l : List Int} (h : BlkI w G l) (k : Nat) : w.frozen? ⟨G, k, none⟩ = false := by
 obtain ⟨T, h⟩ := h; exact frozen_of_block h k
theorem BlkI.set {w : World} {G : Nat} {l : List Int} (h : BlkI w G l) (k : Nat) (x : Int) : BlkI (w.setCell ⟨G, k, none⟩ (.int .i64 x)) G (l.set k x) := by
 obtain ⟨T, h⟩ := h
 refine ⟨T, ?_⟩
 rw [heap_setCell_self h]
 congr 2
 apply Array.ext'
 simp [List.map_set]
theorem BlkI.keep {w w' : World} {G : Nat} {l : List Int} (h : BlkI w G l) (hk : w'.heap[G]? = w.heap[G]?) : BlkI w' G l := by
 obtain ⟨T, h⟩ := h; exact ⟨T, by rw [hk]; exact h⟩
theorem BlkI.lt {w : World} {G : Nat} {l : List Int} (h : BlkI w G l) : G < w.heap.size := by
 obtain ⟨T, h⟩ := h; exact lt_of_heap h
theorem BlkI.x1 {w : World} {G off : Nat} {l : List Int} (h : BlkI w G l) (ho : off ≤ l.length) (hl : l.length ≤ 1000000) : X1 w (.slice (some ⟨G, off, none⟩) (l.length - off) (l.length - off)) (l.drop off) G := by
 obtain ⟨T, h⟩ := h
 refine ⟨_, l.length - off, by rw [List.length_drop], by rw [List.length_drop]; exact Nat.le_refl _, by unfold maxLen; omega, fun _ => ⟨off, _, T, rfl, h, fun k hk => ?_⟩⟩
 rw [List.length_drop] at hk
 have e : geti (l.drop off) k = geti l (off + k) := by simp [geti]
 rw [e, geti_eq (by omega)]
 simp [show off + k < l.length from by omega]
end Go.Proofs.YtmaefilliggjiaaGreat
