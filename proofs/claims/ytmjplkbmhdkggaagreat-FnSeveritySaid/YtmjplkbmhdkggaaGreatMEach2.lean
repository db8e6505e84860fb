/- The program's visit of all keys: the closure that sets one cut. No conditions. -/
import Derived.Test.YtmjplkbmhdkggaaGreatMFalse
namespace Go.Proofs.YtmjplkbmhdkggaaGreat
open Go.RowKit
set_option linter.unusedVariables false
set_option linter.unusedSimpArgs false
theorem fit_push {m : Mk} {pre : List Int} {x : Int} : fitAt m (pre ++ [x]) pre.length = (decide ((runAt (pre ++ [x]) pre.length : Int) ≤ m.e) && (pre.length == 0 || decide (absI (x - geti pre (pre.length - 1)) ≤ m.s))) := by
 unfold fitAt
 rw [geti_snoc]
 cases hp : pre.length with
 | zero => rfl
 | succ n => rw [Nat.add_sub_cancel, geti_append (by omega)]
/-- Which cuts may be set: by a function, or all. -/
def AOk (m : Mk) (w0 : World) (F0 : Nat → Prop) (av : Value) (A : Nat → Int → Bool) : Prop :=
 (av = .nilFunc ∧ ∀ c x, A c x = true) ∨
 ∃ fa ac, av = .func (.func fa) #[] ac ∧ Enters fa ∧ ∀ (c : Nat) (x : Int) (w : World), (c : Int) < m.c → 0 ≤ x → x < m.d → Chg F0 w0 w →
   Calls Tryz.prog fa (#[.int .i64 c, .int .i64 x] ++ ac) w fun e w' => e = .returned (.bool (A c x)) ∧ ∃ n, w' = w.drewN n
def CutPost {σ : Type} (m : Mk) (w0 : World) (F0 : Nat → Prop) (Inv : σ → (Nat → Prop) → World → Prop) (o : EK) (fv av vv : Value) (pre : List Int) (r : σ × Bool) (e : Ending) (w' : World) : Prop :=
 ∃ F' kv', e = .returned (.bool r.2) ∧ ES m w0 F0 Inv o fv av vv r.1 F' w' pre kv'
section
variable {σ : Type} {m : Mk} {w0 : World} {F0 : Nat → Prop} {f : FuncId} {caps : Array Value} {step : σ → List Int → σ × Bool} {s0 : σ} {L : List (List Int)} {Inv : σ → (Nat → Prop) → World → Prop} {o : EK} {fv av : Value} {A : Nat → Int → Bool} {fr : List Int}
set_option maxRecDepth 100000 in
theorem cut_end (hm : m.ok = true) (V : VisOk m.c.toNat w0 F0 f caps step s0 L Inv) (tight : Bool) (s : σ) (F : Nat → Prop) (w : World) (pre : List Int) (kv : Value) (done rest : List (List Int))
  (hpre : (pre.length : Int) = m.c) (hL : L = done ++ genF m A fr tight 0 pre ++ rest) (hs : runL step s0 done = (s, true)) (h : ES m w0 F0 Inv o fv av (.func (.func f) #[] caps) s F w pre kv) :
  Calls Tryz.prog 148 #[.bool tight, .pointer (some ⟨o.k, 0, none⟩), .pointer (some ⟨o.m, 0, none⟩), .pointer (some ⟨o.v, 0, none⟩), .pointer (some ⟨o.f, 0, none⟩), .pointer (some ⟨o.a, 0, none⟩), .pointer (some ⟨o.c, 0, none⟩)] w
   (CutPost m w0 F0 Inv o fv av (.func (.func f) #[] caps) pre (runL step s0 (done ++ genF m A fr tight 0 pre))) := by
 have hmk := Mk.ok_iff.1 hm
 obtain ⟨Tk, hk⟩ := h.hk
 obtain ⟨Tm, hbm⟩ := h.hm
 obtain ⟨Tv, hbv⟩ := h.hv
 have hck := cell_of_block hk 0
 have hc0 := cell_of_block hbm 0
 have hc4 := cell_of_block hbm 4
 have hcv := cell_of_block hbv 0
 simp at hck hc0 hc4 hcv
 obtain ⟨ka, kc, rfl, hkc, hkm⟩ := own_form h.own
 have hV1 := own_V1 h.own
 have e2 : ((pre.length : Int) == m.c) = true := by simp [hpre]
 have hle : pre.length ≤ 6 := by omega
 clear hk hbm hbv
 have Hpre := Lib.hid hpre; clear hpre hmk hm
 by_cases hlt : (kinds pre : Int) < m.l
 ·have hr : runL step s0 (done ++ genF m A fr tight 0 pre) = (s, true) := by
   unfold genF; rw [if_neg (by omega), List.append_nil, hs]
  rw [hr]
  have Hh := Lib.hid h; clear h
  have HL := Lib.hid hL; clear hL
  have Hs := Lib.hid hs; clear hs hr
  go_enter Tryz.func148, Tryz.ntmps148
  go_wp2_with fail
  go_quiet ((go_at_call 149; first | exact quiet_same (different_any _ _ _ (V1.drewN hV1)) | exact quiet_same0 (different_any _ _ _ (V1.drewN hV1))))
  go_wp2_with fail
  go_ret
  exact ⟨F, _, rfl, Hh.out.draw V.keep _⟩
 ·have hgen : genF m A fr tight 0 pre = [pre] := by unfold genF; rw [if_pos (by omega)]
  have hr : runL step s0 (done ++ genF m A fr tight 0 pre) = step s pre := by
   rw [hgen, runL_go _ (by rw [hs]), hs]; exact runL_one _ _ _
  rw [hr]
  rw [hgen] at hL
  have hL2 : L = done ++ pre :: rest := by rw [hL]; simp
  have hd : decide ((kinds pre : Int) < m.l) = false := decide_eq_false hlt
  have hen := V.enters
  have HV := Lib.hid V; clear V
  unfold Enters at hen
  have Hh := Lib.hid h; clear h
  have HL := Lib.hid hL2; clear hL hL2
  have Hs := Lib.hid hs; clear hs hr hgen
  go_enter Tryz.func148, Tryz.ntmps148
  go_wp2_with fail
  go_region_held3 (fun w' => w'.cell? ⟨o.m, 4, none⟩ = some (.int .i64 m.l) ∧ w'.cell? ⟨o.v, 0, none⟩ = some (.func (.func f) #[] caps) ∧ w'.cell? ⟨o.k, 0, none⟩ = some (.slice ka pre.length kc)) (first | exact ⟨(ES.cm (by assumption)).2.2.2.2, ES.cv (by assumption), (ES.ck (by assumption)).1⟩ | go_keep)
   (first | (go_at_call 149; refine (different_any _ pre _ (hV1.below ((Below.refl _ _).drew))).mono ?_; rintro e' w' ⟨rfl, rfl⟩) | (refine (HV.out.call s F _ _ _ pre done rest HL.out Hs.out ((Hh.out.drew HV.out.keep).inv) ((Hh.out.drew HV.out.keep).chg) Hh.out.sub (hV1.below ((Below.refl _ _).drew)) (fun b hb => (Hh.out.far b hb).1) (by have := Hpre.out; omega)).mono ?_; rintro e' w' ⟨F', rfl, hinv, hchg, hsub⟩; have hES := (Hh.out.drew HV.out.keep).visit hinv (HV.out.lt _ _ _ hinv) hchg hsub))
  go_wp2_with fail
  go_ret
  exact ⟨_, _, rfl, by assumption⟩
end
theorem own_some {w : World} {B : Nat} {e : TypeId} {v : Value} {n : Nat} {xs : List Value} (h : w.ownsRow B e 1 v n xs) (hn : 1 ≤ n) : ∃ g c, v = .slice (some ⟨g, 0, none⟩) n c ∧ n ≤ c ∧ c ≤ maxLen := by
 rcases h.2 with ⟨rfl, h0⟩ | ⟨g, cap, cur, rfl, h1, h2, h3, h4, _⟩
 ·omega
 ·exact ⟨_, _, rfl, h3, h4⟩
theorem fit_runE {m : Mk} {l : List Int} {k : Nat} {r : Int} (hr : (runAt l k : Int) = r) (h : m.e < r) : fitAt m l k = false := by
 unfold fitAt; rw [hr, decide_eq_false (by omega)]; rfl
theorem own_len {w : World} {B : Nat} {e : TypeId} {v : Value} {pre : List Int} {x : Int} {xs : List Value} (h : w.ownsRow B e 1 v (pre ++ [x]).length xs) : w.ownsRow B e 1 v (pre.length + 1) xs := by
 simpa using h
theorem runL_pair {σ α : Type} {f : σ → α → σ × Bool} {s0 : σ} {l : List α} {r : σ × Bool} {b : Bool} (h : runL f s0 l = r) (hb : r.2 = b) : runL f s0 l = (r.1, b) := by rw [h, ← hb]
theorem neqNil (w : World) : Sem.run Tryz.prog (binOp .neq 153 .nilFunc .nilFunc) w = .ok (.bool false) w := by kernel_rfl
theorem neqFunc (f : FuncId) (ac : Array Value) (w : World) : Sem.run Tryz.prog (binOp .neq 153 (.func (.func f) #[] ac) .nilFunc) w = .ok (.bool true) w := by kernel_rfl
theorem Chg.drewN' {F : Nat → Prop} {a w : World} (h : Chg F a w) (n : Nat) : Chg F a (w.drewN n) := ⟨h.os, h.tape, h.output, h.size, h.block⟩
theorem brF_bad {m : Mk} {A : Nat → Int → Bool} {fr : List Int} {t : Bool} {rem : Nat} {pre : List Int} {x : Int} (h : ¬ (A pre.length x = true ∧ (pre.length = 0 ∨ absI (x - geti pre (pre.length - 1)) ≤ m.s))) : brF m A fr t rem pre x = [] := by
 unfold brF
 rw [if_neg]
 intro hc
 rw [Bool.and_eq_true, fit_push, Bool.and_eq_true, Bool.or_eq_true, decide_eq_true_eq, decide_eq_true_eq, beq_iff_eq] at hc
 exact h ⟨hc.1, hc.2.2⟩
section
variable {σ : Type} {m : Mk} {w0 : World} {F0 : Nat → Prop} {f : FuncId} {caps : Array Value} {step : σ → List Int → σ × Bool} {s0 : σ} {L : List (List Int)} {Inv : σ → (Nat → Prop) → World → Prop} {o : EK} {fv av vv kv : Value} {A : Nat → Int → Bool} {fr : List Int} {F : Nat → Prop} {s : σ} {w w1 : World} {pre : List Int}
theorem ES.grown_ck (h : ES m w0 F0 Inv o fv av vv s F w pre kv) (hg : w.grownBy w1 kv.ownBlock) : w1.cell? ⟨o.k, 0, none⟩ = some kv ∧ w1.frozen? ⟨o.k, 0, none⟩ = false := by
 obtain ⟨T, hT⟩ := h.hk
 have := hg.block o.k (h.new _ (has_k o)).2.1 (fun e => (h.far _ e.symm).2 (has_k o))
 rw [hT] at this
 exact ⟨cell_of_block this 0, frozen_of_block this 0⟩
/-- The keys with the cuts lo .. x - 1 here. -/
def partF (m : Mk) (A : Nat → Int → Bool) (fr : List Int) (tight : Bool) (rem : Nat) (pre : List Int) (x : Nat) : List (List Int) := (depths (lowF fr tight pre.length) x).flatMap (brF m A fr tight rem pre)
theorem partF_lo {tight : Bool} {rem : Nat} {x : Nat} (h : x ≤ lowF fr tight pre.length) : partF m A fr tight rem pre x = [] := by unfold partF; rw [depths_nil h]; rfl
theorem partF_succ {tight : Bool} {rem : Nat} {x : Nat} (h : lowF fr tight pre.length ≤ x) : partF m A fr tight rem pre (x + 1) = partF m A fr tight rem pre x ++ brF m A fr tight rem pre x := by
 unfold partF; rw [depths_snoc h, List.flatMap_append]; simp
theorem partF_end {tight : Bool} {rem : Nat} : partF m A fr tight rem pre m.d.toNat = genF m A fr tight (rem + 1) pre := rfl
theorem partF_le {tight : Bool} {rem : Nat} {x y : Nat} (h : x ≤ y) : ∃ r, partF m A fr tight rem pre y = partF m A fr tight rem pre x ++ r := by
 induction y with
 | zero => exact ⟨[], by rw [show x = 0 from by omega]; simp⟩
 | succ y ih =>
   by_cases e : x = y + 1
   ·exact ⟨[], by rw [e]; simp⟩
   ·obtain ⟨r, hr⟩ := ih (by omega)
    by_cases hl : lowF fr tight pre.length ≤ y
    ·exact ⟨r ++ brF m A fr tight rem pre y, by rw [partF_succ hl, hr, List.append_assoc]⟩
    ·rw [partF_lo (by omega), partF_lo (by omega)]; exact ⟨[], rfl⟩
theorem range_push {x : Nat} (h : ∀ k, k < pre.length → 0 ≤ geti pre k ∧ geti pre k ≤ 7) (hx : x < 8) : ∀ k, k < (pre ++ [(x : Int)]).length → 0 ≤ geti (pre ++ [(x : Int)]) k ∧ geti (pre ++ [(x : Int)]) k ≤ 7 := by
 intro k hk
 by_cases hkl : k < pre.length
 ·rw [geti_append hkl]; exact h k hkl
 ·rw [show k = pre.length from by simp at hk; omega, geti_snoc]; omega
end
end Go.Proofs.YtmjplkbmhdkggaaGreat
