/- The program's visit of all keys: the closure that sets one cut. No conditions. -/
import Derived.Test.YtlfnadmbelngeaaEach
namespace Go.Proofs.Ytlfnadmbelngeaa
open Go.RowKit
set_option linter.unusedVariables false
set_option linter.unusedSimpArgs false

theorem fit_push {m : Mk} {pre : List Int} {x : Int} : fitAt m (pre ++ [x]) pre.length = (decide ((runAt (pre ++ [x]) pre.length : Int) ≤ m.e) && (pre.length == 0 || decide (absI (x - geti pre (pre.length - 1)) ≤ m.s))) := by
  unfold fitAt
  rw [geti_snoc]
  cases hp : pre.length with
  | zero => rfl
  | succ n => rw [Nat.add_sub_cancel, geti_append (by omega)]
/-- Which cuts may be set: by a function, or all. -/
def AOk (m : Mk) (w0 : World) (F0 : Nat → Prop) (av : Value) (A : Nat → Int → Bool) : Prop :=
  (av = .nilFunc ∧ ∀ c x, A c x = true) ∨
  ∃ fa ac, av = .func (.func fa) #[] ac ∧ Enters fa ∧ ∀ (c : Nat) (x : Int) (w : World), (c : Int) < m.c → 0 ≤ x → x < m.d → Chg F0 w0 w →
    Calls Try.prog fa (#[.int .i64 c, .int .i64 x] ++ ac) w fun e w' => e = .returned (.bool (A c x)) ∧ ∃ n, w' = w.drewN n

def CutPost {σ : Type} (m : Mk) (w0 : World) (F0 : Nat → Prop) (Inv : σ → (Nat → Prop) → World → Prop) (o : EK) (fv av vv : Value) (pre : List Int) (r : σ × Bool) (e : Ending) (w' : World) : Prop :=
  ∃ F' kv', e = .returned (.bool r.2) ∧ ES m w0 F0 Inv o fv av vv r.1 F' w' pre kv'

section
variable {σ : Type} {m : Mk} {w0 : World} {F0 : Nat → Prop} {f : FuncId} {caps : Array Value} {step : σ → List Int → σ × Bool} {s0 : σ} {L : List (List Int)} {Inv : σ → (Nat → Prop) → World → Prop} {o : EK} {fv av : Value} {A : Nat → Int → Bool} {fr : List Int}

set_option maxRecDepth 100000 in
theorem cut_end (hm : m.ok = true) (V : VisOk m.c.toNat w0 F0 f caps step s0 L Inv) (tight : Bool) (s : σ) (F : Nat → Prop) (w : World) (pre : List Int) (kv : Value) (done rest : List (List Int))
    (hpre : (pre.length : Int) = m.c) (hL : L = done ++ genF m A fr tight 0 pre ++ rest) (hs : runL step s0 done = (s, true)) (h : ES m w0 F0 Inv o fv av (.func (.func f) #[] caps) s F w pre kv) :
    Calls Try.prog 85 #[.bool tight, .pointer (some ⟨o.k, 0, none⟩), .pointer (some ⟨o.m, 0, none⟩), .pointer (some ⟨o.v, 0, none⟩), .pointer (some ⟨o.f, 0, none⟩), .pointer (some ⟨o.a, 0, none⟩), .pointer (some ⟨o.c, 0, none⟩)] w
      (CutPost m w0 F0 Inv o fv av (.func (.func f) #[] caps) pre (runL step s0 (done ++ genF m A fr tight 0 pre))) := by
  have hmk := Mk.ok_iff.1 hm
  obtain ⟨Tk, hk⟩ := h.hk
  obtain ⟨Tm, hbm⟩ := h.hm
  obtain ⟨Tv, hbv⟩ := h.hv
  have hck := cell_of_block hk 0
  have hc0 := cell_of_block hbm 0
  have hc4 := cell_of_block hbm 4
  have hcv := cell_of_block hbv 0
  simp at hck hc0 hc4 hcv
  obtain ⟨ka, kc, rfl, hkc, hkm⟩ := own_form h.own
  have hV1 := own_V1 h.own
  have e2 : ((pre.length : Int) == m.c) = true := by simp [hpre]
  have hle : pre.length ≤ 6 := by omega
  clear hk hbm hbv
  have Hpre := Lib.hid hpre; clear hpre hmk hm
  by_cases hlt : (kinds pre : Int) < m.l
  · have hr : runL step s0 (done ++ genF m A fr tight 0 pre) = (s, true) := by
      unfold genF; rw [if_neg (by omega), List.append_nil, hs]
    rw [hr]
    have Hh := Lib.hid h; clear h
    have HL := Lib.hid hL; clear hL
    have Hs := Lib.hid hs; clear hs hr
    go_enter Try.func85, Try.ntmps85
    go_wp2_with fail
    go_quiet ((go_at_call 86; first | exact quiet_same (different_any _ _ _ (V1.drewN hV1)) | exact quiet_same0 (different_any _ _ _ (V1.drewN hV1))))
    go_wp2_with fail
    go_ret
    exact ⟨F, _, rfl, Hh.out.draw V.keep _⟩
  · have hgen : genF m A fr tight 0 pre = [pre] := by unfold genF; rw [if_pos (by omega)]
    have hr : runL step s0 (done ++ genF m A fr tight 0 pre) = step s pre := by
      rw [hgen, runL_go _ (by rw [hs]), hs]; exact runL_one _ _ _
    rw [hr]
    rw [hgen] at hL
    have hL2 : L = done ++ pre :: rest := by rw [hL]; simp
    have hd : decide ((kinds pre : Int) < m.l) = false := decide_eq_false hlt
    have hen := V.enters
    have HV := Lib.hid V; clear V
    unfold Enters at hen
    have Hh := Lib.hid h; clear h
    have HL := Lib.hid hL2; clear hL hL2
    have Hs := Lib.hid hs; clear hs hr hgen
    go_enter Try.func85, Try.ntmps85
    go_wp2_with fail
    go_region_held3 (fun w' => w'.cell? ⟨o.m, 4, none⟩ = some (.int .i64 m.l) ∧ w'.cell? ⟨o.v, 0, none⟩ = some (.func (.func f) #[] caps) ∧ w'.cell? ⟨o.k, 0, none⟩ = some (.slice ka pre.length kc)) (first | exact ⟨(ES.cm (by assumption)).2.2.2.2, ES.cv (by assumption), (ES.ck (by assumption)).1⟩ | go_keep)
      (first | (go_at_call 86; refine (different_any _ pre _ (hV1.below ((Below.refl _ _).drew))).mono ?_; rintro e' w' ⟨rfl, rfl⟩) | (refine (HV.out.call s F _ _ _ pre done rest HL.out Hs.out ((Hh.out.drew HV.out.keep).inv) ((Hh.out.drew HV.out.keep).chg) Hh.out.sub (hV1.below ((Below.refl _ _).drew)) (fun b hb => (Hh.out.far b hb).1) (by have := Hpre.out; omega)).mono ?_; rintro e' w' ⟨F', rfl, hinv, hchg, hsub⟩; have hES := (Hh.out.drew HV.out.keep).visit hinv (HV.out.lt _ _ _ hinv) hchg hsub))
    go_wp2_with fail
    go_ret
    exact ⟨_, _, rfl, by assumption⟩
end
end Go.Proofs.Ytlfnadmbelngeaa
