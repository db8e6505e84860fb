/- Plain lists: the first of a list of keys and the one behind it; what a slice of integers reads as. No program here. No conditions. -/
import Derived.Laws.OwnMore
import Derived.Deep.DrawnRows
import Derived.Test.YtmjplkbmhdkggaaGreatMStops
import Derived.Test.YtmjplkbmhdkggaaGreatMLib
import Derived.Test.YtmjplkbmhdkggaaGreatMEach5
import Derived.Test.YtmjplkbmhdkggaaGreatMTable
namespace Go.Proofs.YtmjplkbmhdkggaaGreat
open Go.RowKit
set_option linter.unusedVariables false
set_option linter.unusedSimpArgs false
/-- The first of a list, and whether there is one. -/
def nextAns : List (List Int) → List Int × Bool
 | [] => ([], false)
 | k :: _ => (k, true)
theorem nextAns_append (a b : List (List Int)) : nextAns (a ++ b) = if (nextAns a).2 = true then nextAns a else nextAns b := by
 cases a <;> simp [nextAns]
theorem nextAns_true {l : List (List Int)} (h : (nextAns l).2 = true) : ∃ k r, l = k :: r := by
 cases l with
 | nil => cases h
 | cons k r => exact ⟨k, r, rfl⟩
/-- What the cells of a slice read as. -/
def readI (w : World) : Value → List Int
 | .slice (some ⟨b, off, none⟩) n _ => (List.range n).map fun k => match w.cell? ⟨b, off + k, none⟩ with
   | some (.int _ x) => x
   | _ => 0
 | _ => []
theorem V1.read {S : Nat → Prop} {w : World} {v : Value} {l : List Int} (h : V1 S w v l) : readI w v = l := by
 obtain ⟨a, c, rfl, h1, h2, h⟩ := h
 by_cases hn : l.length = 0
 ·obtain rfl := List.eq_nil_of_length_eq_zero hn
  cases a with
  | none => rfl
  | some a => obtain ⟨b, off, s⟩ := a; cases s <;> rfl
 ·obtain ⟨b, off, ev, rfl, _, _, _⟩ := h 0 (by omega)
  unfold readI
  apply List.ext_getElem (by simp)
  intro k g1 g2
  obtain ⟨b', off', ev, e, _, hc, hr⟩ := h k g2
  simp only [Option.some.injEq, Addr.mk.injEq, and_true] at e
  obtain ⟨rfl, rfl⟩ := e
  rw [show ev = .int .i64 (geti l k) from hr] at hc
  simp only [List.getElem_map, List.getElem_range, hc]
  exact geti_eq g2
/-- How many keys are still to come: for the measure of a loop over keys. -/
def isOk : Value → Bool
 | .bool b => b
 | _ => false
def toCome (m : Mk) (w : World) (kv okv : Value) : Nat := if isOk okv = true then (behind m (readI w kv)).length + 1 else 0
theorem toCome_last {m : Mk} {w : World} {kv : Value} : toCome m w kv (.bool false) = 0 := by unfold toCome; rw [if_neg (by simp [isOk])]
theorem toCome_more {m : Mk} {w : World} {kv : Value} {S : Nat → Prop} {l : List Int} (h : V1 S w kv l) : toCome m w kv (.bool true) = (behind m l).length + 1 := by unfold toCome; simp [isOk, h.read]
/-- The outsiders among some keys. -/
def outsOf (cuts ks : List (List Int)) : List (List Int) := ks.filter fun k => !hasL cuts k
/-- How many doors a key opens. -/
def ndoors (locks : List (List (List Int))) (k : List Int) : Nat := (doorsOf locks k).length
theorem ndoors_le (locks : List (List (List Int))) (k : List Int) : ndoors locks k ≤ locks.length := doorsOf_len _ _
/-- How many of some keys open j doors. -/
def cntN (locks : List (List (List Int))) (ks : List (List Int)) (j : Nat) : Nat := ks.countP fun k => decide (ndoors locks k = j)
theorem cntN_snoc (locks : List (List (List Int))) (ks : List (List Int)) (k : List Int) (j : Nat) : cntN locks (ks ++ [k]) j = cntN locks ks j + if ndoors locks k = j then 1 else 0 := by
 unfold cntN
 rw [List.countP_append]
 congr 1
 simp [List.countP_cons]
theorem cntN_le (locks : List (List (List Int))) (ks : List (List Int)) (j : Nat) : cntN locks ks j ≤ ks.length := List.countP_le_length
/-- The counts from lo on, n of them. -/
def cntL (locks : List (List (List Int))) (ks : List (List Int)) (lo n : Nat) : List Int := (List.range n).map fun j => ((cntN locks ks (lo + j) : Nat) : Int)
theorem cntL_len (locks : List (List (List Int))) (ks : List (List Int)) (lo n : Nat) : (cntL locks ks lo n).length = n := by simp [cntL]
theorem cntL_get {locks : List (List (List Int))} {ks : List (List Int)} {lo n j : Nat} (h : j < n) : geti (cntL locks ks lo n) j = ((cntN locks ks (lo + j) : Nat) : Int) := by
 rw [geti_eq (by rw [cntL_len]; exact h)]; simp [cntL]
theorem cntL_nil (locks : List (List (List Int))) (lo n : Nat) : cntL locks [] lo n = List.replicate n 0 := by
 apply List.ext_getElem (by simp [cntL])
 intro i h1 h2
 simp [cntL, cntN]
theorem sum_bd {l : List Int} {B : Int} (h : ∀ x ∈ l, 0 ≤ x ∧ x ≤ B) : 0 ≤ l.sum ∧ l.sum ≤ B * l.length := by
 induction l with
 | nil => simp
 | cons x l ih =>
   have h1 := h x (List.mem_cons_self ..)
   have h2 := ih fun y hy => h y (List.mem_cons_of_mem _ hy)
   simp only [List.sum_cons, List.length_cons, Int.natCast_add, Int.mul_add]
   omega
theorem sum_take {l : List Int} {k : Nat} (h : k < l.length) : (l.take (k + 1)).sum = (l.take k).sum + geti l k := by
 rw [take_geti h, List.sum_append]; simp
/-- All counts together. -/
theorem cnt_sum (locks : List (List (List Int))) (ks : List (List Int)) (lo : Nat) : ∀ n, ((cntL locks ks lo n).sum : Int) = ((ks.countP fun k => decide (lo ≤ ndoors locks k ∧ ndoors locks k < lo + n) : Nat) : Int)
 | 0 => by
   have : (ks.countP fun k => decide (lo ≤ ndoors locks k ∧ ndoors locks k < lo + 0)) = 0 := by
    rw [List.countP_eq_zero]; intro k _; simp
   rw [this]; simp [cntL]
 | n + 1 => by
   have ih := cnt_sum locks ks lo n
   have h1 : cntL locks ks lo (n + 1) = cntL locks ks lo n ++ [((cntN locks ks (lo + n) : Nat) : Int)] := by
    simp [cntL, List.range_succ]
   rw [h1, List.sum_append, ih]
   simp only [List.sum_cons, List.sum_nil, Int.add_zero]
   rw [← Int.natCast_add]
   congr 1
   unfold cntN
   clear ih h1
   induction ks with
   | nil => rfl
   | cons k ks ih =>
     simp only [List.countP_cons]
     by_cases h1 : ndoors locks k = lo + n
     ·simp only [h1, decide_true, if_true]
      rw [show decide (lo ≤ lo + n ∧ lo + n < lo + n) = false by simp, show decide (lo ≤ lo + n ∧ lo + n < lo + (n + 1)) = true by simp]
      simp only [Bool.false_eq_true, if_false, if_true]
      omega
     ·have e : decide (lo ≤ ndoors locks k ∧ ndoors locks k < lo + (n + 1)) = decide (lo ≤ ndoors locks k ∧ ndoors locks k < lo + n) := by
       rw [decide_eq_decide]; omega
      rw [e]
      simp only [h1, decide_false]
      simp only [Bool.false_eq_true, if_false]
      omega
/-- What is done at a key: nothing at one of the cuts. -/
def outStep {σ : Type} (step : σ → List Int → List Int → σ × Bool) (cuts : List (List Int)) (locks : List (List (List Int))) (s : σ) (key : List Int) : σ × Bool :=
 if hasL cuts key = true then (s, true) else step s key (doorsOf locks key)
/-- What a visit of outsiders does to a state, and to the memory that bears it: F are the blocks that it may write. -/
structure VisD {σ : Type} (C : Nat) (w0 : World) (F0 : Nat → Prop) (f : FuncId) (caps : Array Value) (step : σ → List Int → List Int → σ × Bool) (s0 : σ) (L : List (List Int)) (cuts : List (List Int)) (locks : List (List (List Int))) (Inv : σ → (Nat → Prop) → World → Prop) : Prop where
 enters : Enters f
 keep : ∀ s F w w', Inv s F w → w.heap.size ≤ w'.heap.size → (∀ b, F b → w'.heap[b]? = w.heap[b]?) → Inv s F w'
 lt : ∀ s F w, Inv s F w → ∀ b, F b → b < w.heap.size
 call : ∀ (s : σ) (F S S2 : Nat → Prop) (w : World) (v dv : Value) (key : List Int) (done rest : List (List Int)), L = done ++ key :: rest → runL (outStep step cuts locks) s0 done = (s, true) → Inv s F w → Chg F0 w0 w → (∀ b, F b → F0 b ∨ w0.heap.size ≤ b) →
  V1 S w v key → (∀ b, S b → ¬ F b) → V1 S2 w dv (doorsOf locks key) → (∀ b, S2 b → ¬ F b) → key.length = C →
  Calls Tryz.prog f (#[v, dv] ++ caps) w fun e w' => ∃ F', e = .returned (.bool (step s key (doorsOf locks key)).2) ∧ Inv (step s key (doorsOf locks key)).1 F' w' ∧ Chg F w w' ∧ ∀ b, F' b → F b ∨ w.heap.size ≤ b
theorem cast_act {Q : Exit → Act → World → Prop} {e : Exit} {w : World} {a a' : Act} (h : a = a') (hq : Q e a' w) : Q e a w := h ▸ hq
theorem c3_below {b1 b2 b3 : Nat} {v1 v2 v3 : Value} {w w' : World} (h : w.cell? ⟨b1, 0, none⟩ = some v1 ∧ w.cell? ⟨b2, 0, none⟩ = some v2 ∧ w.cell? ⟨b3, 0, none⟩ = some v3) (hb : Below w.heap.size w w') :
  w'.cell? ⟨b1, 0, none⟩ = some v1 ∧ w'.cell? ⟨b2, 0, none⟩ = some v2 ∧ w'.cell? ⟨b3, 0, none⟩ = some v3 :=
 ⟨cell_keep h.1 (hb.block _ (lt_of_cell h.1)), cell_keep h.2.1 (hb.block _ (lt_of_cell h.2.1)), cell_keep h.2.2 (hb.block _ (lt_of_cell h.2.2))⟩
theorem c3_chg {b1 b2 b3 : Nat} {v1 v2 v3 : Value} {w w' : World} {F : Nat → Prop} (h : w.cell? ⟨b1, 0, none⟩ = some v1 ∧ w.cell? ⟨b2, 0, none⟩ = some v2 ∧ w.cell? ⟨b3, 0, none⟩ = some v3) (hb : Chg F w w') (hn : ¬ F b1 ∧ ¬ F b2 ∧ ¬ F b3) :
  w'.cell? ⟨b1, 0, none⟩ = some v1 ∧ w'.cell? ⟨b2, 0, none⟩ = some v2 ∧ w'.cell? ⟨b3, 0, none⟩ = some v3 :=
 ⟨cell_keep h.1 (hb.block _ (lt_of_cell h.1) hn.1), cell_keep h.2.1 (hb.block _ (lt_of_cell h.2.1) hn.2.1), cell_keep h.2.2 (hb.block _ (lt_of_cell h.2.2) hn.2.2)⟩
section
variable {σ : Type} {m : Mk} {W0 : World} {F0 : Nat → Prop} {f : FuncId} {caps : Array Value} {step : σ → List Int → List Int → σ × Bool} {s0 : σ} {L : List (List Int)} {cuts : List (List Int)} {locks : List (List (List Int))} {Inv : σ → (Nat → Prop) → World → Prop}
theorem enters_out : Enters 124 := fun args w => by kernel_rfl
set_option maxRecDepth 100000 in
set_option maxHeartbeats 1000000 in
theorem out_call (V : VisD m.c.toNat W0 F0 f caps step s0 L cuts locks Inv) (bc bv bl : Nat) (cv lv : Value) (s : σ) (F S : Nat → Prop) (w : World) (v : Value) (key : List Int) (done rest : List (List Int))
  (hL : L = done ++ key :: rest) (hs : runL (outStep step cuts locks) s0 done = (s, true)) (hI : Inv s F w) (hc0 : Chg F0 W0 w) (hF : ∀ b, F b → F0 b ∨ W0.heap.size ≤ b)
  (hV : V1 S w v key) (hS : ∀ b, S b → ¬ F b) (hkl : key.length = m.c.toNat)
  (h1 : w.cell? ⟨bc, 0, none⟩ = some cv) (h2 : w.cell? ⟨bv, 0, none⟩ = some (.func (.func f) #[] caps)) (h3 : w.cell? ⟨bl, 0, none⟩ = some lv) (hn : ¬ F bc ∧ ¬ F bv ∧ ¬ F bl)
  (hcv : V2 (fun b => ¬ F b) w cv cuts) (hlv : V3 (fun b => ¬ F b) w lv locks) (hll : locks.length ≤ 1000) (hlen : ∀ k, k < locks.length → (getll locks k).length = m.c.toNat) :
  Calls Tryz.prog 124 #[v, .pointer (some ⟨bc, 0, none⟩), .pointer (some ⟨bv, 0, none⟩), .pointer (some ⟨bl, 0, none⟩)] w
   fun e w' => ∃ F', e = .returned (.bool (outStep step cuts locks s key).2) ∧ Inv (outStep step cuts locks s key).1 F' w' ∧ Chg F w w' ∧ ∀ b, F' b → F b ∨ w.heap.size ≤ b := by
 obtain ⟨ka, kc, rfl, hkm⟩ := hV.form
 obtain ⟨ca, cc, rfl, hcm⟩ := hcv.form
 obtain ⟨la, lc, rfl, hlm⟩ := hlv.form
 have hlenk : ∀ k, k < locks.length → key.length ≤ (getll locks k).length := fun k hk => by rw [hlen k hk, hkl]; exact Nat.le_refl _
 have Hlen := Lib.hid hlenk; clear hlen hlenk
 have Hkl := Lib.hid hkl; clear hkl
 have hFlt := V.lt _ _ _ hI
 have hdr : Below w.heap.size w w.drew := (Below.refl _ _).drew
 have H0 := Lib.hid (And.intro hL (And.intro hs (And.intro hc0 hF))); clear hL hs hc0 hF
 have HI := Lib.hid hI; clear hI
 have HF := Lib.hid (And.intro hFlt hS); clear hFlt hS
 have hen := V.enters
 unfold Enters at hen
 have HV := Lib.hid V; clear V
 have hkc := hV.below hdr
 have Hn := Lib.hid hn; clear hn
 cases hh : hasL cuts key
 ·have hst : outStep step cuts locks s key = step s key (doorsOf locks key) := by unfold outStep; rw [if_neg (by rw [hh]; decide)]
  rw [hst]
  have Hh := Lib.hid (And.intro hh hst); clear hh hst
  go_enter Tryz.func124, Tryz.ntmps124
  go_wp2_with fail
  go_region_held3 (fun w' => w'.cell? ⟨bc, 0, none⟩ = some (.slice ca cuts.length cc) ∧ w'.cell? ⟨bv, 0, none⟩ = some (.func (.func f) #[] caps) ∧ w'.cell? ⟨bl, 0, none⟩ = some (.slice la locks.length lc))
   (first | exact ⟨h1, h2, h3⟩ | exact c3_below (by assumption) (by assumption) | exact c3_chg (by assumption) (by assumption) Hn.out)
   (first | (go_at_call 110; refine (contains_b _ _ cuts key _ _ Hh.out.1 (hcv.below hdr) hkc).mono ?_; rintro e' w1 ⟨rfl, hb1⟩) | (go_at_call 125; refine (doorsOpened_any _ _ locks key _ ((hlv.below hdr).below hb1) (hkc.below hb1) hll Hlen.out).mono ?_; rintro e' w2 ⟨v2, rfl, hF2, hb2⟩; have hb02 : Below w.heap.size w w2 := (hdr.trans (hb1.mono hdr.size)).trans (hb2.mono (by have := hb1.size; have := hdr.size; omega)); have hI2 := HV.out.keep _ _ _ _ HI.out hb02.size (fun b hb => hb02.block b (HF.out.1 b hb))) | (refine (HV.out.call s F _ _ _ _ _ key done rest H0.out.1 H0.out.2.1 hI2 (H0.out.2.2.1.then_below hb02) H0.out.2.2.2 ((hkc.below hb1).below hb2) HF.out.2 hF2.v1 (fun b hb hf => by have h6 : w1.heap.size ≤ b := hb; have := HF.out.1 b hf; have := hb1.size; have := hdr.size; omega) Hkl.out).mono ?_; rintro e' w3 ⟨F', rfl, hinv, hchg, hsub⟩))
  have Hfin := Lib.hid (And.intro hinv (And.intro ((Chg.of_below (F := F) hb02).trans hchg (fun i hi => .inl hi)) (fun b hb => by rcases hsub b hb with h | h; exact .inl h; right; have := hb02.size; omega : ∀ b, F' b → F b ∨ w.heap.size ≤ b)))
  clear hinv hchg hsub
  go_wp2_with fail
  go_ret
  exact ⟨F', rfl, Hfin.out⟩
 ·have hst : outStep step cuts locks s key = (s, true) := by unfold outStep; rw [if_pos hh]
  rw [hst]
  have Hh := Lib.hid (And.intro hh hst); clear hh hst
  go_enter Tryz.func124, Tryz.ntmps124
  go_wp2_with fail
  refine wp_region_noPanic ?_
  refine wp_region_held_drew (S := fun w' => w'.cell? ⟨bc, 0, none⟩ = some (.slice ca cuts.length cc)) (by kernel_rfl) h1 (fun hHeld => ?_)
  (refine wpAnyH_take (i := 0) (v := .slice ca cuts.length cc) rfl (by kernel_rfl) (by kernel_rfl) (by kernel_rfl) (fun _ _ _ h => h) (Or.inl ⟨by kernel_rfl, fun w hSw => by (try dsimp only at hSw); go_split_ands; go_simp⟩) (by assumption) ?_; simp only [Act.put, List.setIfInBounds_toArray, List.set_cons_zero, List.set_cons_succ])
  (refine wpAnyH_take (i := 1) (v := .slice ka key.length kc) rfl (by kernel_rfl) (by kernel_rfl) (by kernel_rfl) (fun _ _ _ h => h) (Or.inl ⟨by kernel_rfl, fun w hSw => by (try dsimp only at hSw); go_split_ands; go_simp⟩) (by assumption) ?_; simp only [Act.put, List.setIfInBounds_toArray, List.set_cons_zero, List.set_cons_succ])
  (refine wpAnyH_ready (rs := [2]) (by kernel_rfl) (by simp) (AllReadyH.cons rfl (fun K hK => ?_) AllReadyH.nil); go_simp)
  go_at_call 110
  refine (contains_b _ _ cuts key _ _ Hh.out.1 (hcv.below hdr) hkc).mono ?_
  rintro e' w1 ⟨rfl, hb1⟩
  have hc1 : w1.cell? ⟨bc, 0, none⟩ = some (.slice ca cuts.length cc) := cell_keep h1 (by rw [hb1.block _ (lt_of_cell h1)]; rfl)
  dsimp only
  (refine hK.out _ _ hc1 (fun hHeld => ?_); clear hK K; (try simp only [Act.put, List.setIfInBounds_toArray, List.set_cons_zero, List.set_cons_succ]))
  (refine wpAnyH_take (i := 3) (v := .bool true) rfl (by kernel_rfl) (by kernel_rfl) (by kernel_rfl) (fun _ _ _ h => h) (Or.inl ⟨by kernel_rfl, fun w hSw => by (try dsimp only at hSw); go_split_ands; go_simp⟩) (by assumption) ?_; simp only [Act.put, List.setIfInBounds_toArray, List.set_cons_zero, List.set_cons_succ])
  (refine wpAnyH_take (i := 4) (v := undef) rfl (by kernel_rfl) (by kernel_rfl) (by kernel_rfl) (fun _ _ _ h => h) (Or.inr ⟨by kernel_rfl, rfl⟩) (by assumption) ?_; simp only [Act.put, List.setIfInBounds_toArray, List.set_cons_zero, List.set_cons_succ])
  (refine wpAnyH_take (i := 5) (v := undef) rfl (by kernel_rfl) (by kernel_rfl) (by kernel_rfl) (fun _ _ _ h => h) (Or.inr ⟨by kernel_rfl, rfl⟩) (by assumption) ?_; simp only [Act.put, List.setIfInBounds_toArray, List.set_cons_zero, List.set_cons_succ])
  (refine wpAnyH_take (i := 6) (v := undef) rfl (by kernel_rfl) (by kernel_rfl) (by kernel_rfl) (fun _ _ _ h => h) (Or.inr ⟨by kernel_rfl, rfl⟩) (by assumption) ?_; simp only [Act.put, List.setIfInBounds_toArray, List.set_cons_zero, List.set_cons_succ])
  (refine wpAnyH_take (i := 7) (v := undef) rfl (by kernel_rfl) (by kernel_rfl) (by kernel_rfl) (fun _ _ _ h => h) (Or.inr ⟨by kernel_rfl, rfl⟩) (by assumption) ?_; simp only [Act.put, List.setIfInBounds_toArray, List.set_cons_zero, List.set_cons_succ])
  (refine wpAnyH_take (i := 8) (v := undef) rfl (by kernel_rfl) (by kernel_rfl) (by kernel_rfl) (fun _ _ _ h => h) (Or.inr ⟨by kernel_rfl, rfl⟩) (by assumption) ?_; simp only [Act.put, List.setIfInBounds_toArray, List.set_cons_zero, List.set_cons_succ])
  (refine wpAnyH_take (i := 9) (v := undef) rfl (by kernel_rfl) (by kernel_rfl) (by kernel_rfl) (fun _ _ _ h => h) (Or.inr ⟨by kernel_rfl, rfl⟩) (by assumption) ?_; simp only [Act.put, List.setIfInBounds_toArray, List.set_cons_zero, List.set_cons_succ])
  (refine wpAnyH_take (i := 10) (v := .bool true) rfl (by kernel_rfl) (by kernel_rfl) (by kernel_rfl) (fun _ _ _ h => h) (Or.inl ⟨by kernel_rfl, fun w hSw => by (try dsimp only at hSw); go_split_ands; go_simp⟩) (by assumption) ?_; simp only [Act.put, List.setIfInBounds_toArray, List.set_cons_zero, List.set_cons_succ])
  (refine wpAnyH_take (i := 11) (v := .bool true) rfl (by kernel_rfl) (by kernel_rfl) (by kernel_rfl) (fun _ _ _ h => h) (Or.inl ⟨by kernel_rfl, fun w hSw => by (try dsimp only at hSw); go_split_ands; go_simp⟩) (by assumption) ?_; simp only [Act.put, List.setIfInBounds_toArray, List.set_cons_zero, List.set_cons_succ])
  refine wpAnyH_done (by kernel_rfl) (NoPanic.normal ?_) _
  refine cast_act (a' := ⟨#[.slice ka key.length kc, .pointer (some ⟨bc, 0, none⟩), .pointer (some ⟨bv, 0, none⟩), .pointer (some ⟨bl, 0, none⟩), undef, .bool true, .slice ca cuts.length cc, .slice ka key.length kc, .bool true, .bool true, undef, undef, undef, undef, undef, undef, .bool true], []⟩) (by kernel_rfl) ?_
  have hb01 : Below w.heap.size w w1 := hdr.trans (hb1.mono hdr.size)
  have Hb := Lib.hid hb01
  go_wp2_with fail
  go_ret
  exact ⟨F, rfl, HV.out.keep _ _ _ _ HI.out Hb.out.size (fun b hb => Hb.out.block b (HF.out.1 b hb)), Chg.of_below Hb.out, fun b hb => .inl hb⟩
set_option maxRecDepth 100000 in
set_option maxHeartbeats 1000000 in
theorem eachOutsider_any {t : List (List Int)} {n : Nat} (u v : Value) (hf : Fits m t cuts) (hn : (n : Int) = m.c) (W : World) (V : VisD m.c.toNat W F0 f caps step s0 (keysOf m) cuts (locksTo n t cuts (getl t 0).length) Inv) (hI : Inv s0 F0 W)
  (h : V2 (fun b => ¬ F0 b) W u t) (hc : V2 (fun b => ¬ F0 b) W v cuts) :
  Calls Tryz.prog 60 #[.agg #[.int .i64 m.c, .int .i64 m.d, .int .i64 m.s, .int .i64 m.e, .int .i64 m.l, u], v, .func (.func f) #[] caps] W
   (fun e w' => ∃ F', Inv (runL (outStep step cuts (locksTo n t cuts (getl t 0).length)) s0 (keysOf m)).1 F' w' ∧ Chg F0 W w' ∧ (∀ b, F' b → F0 b ∨ W.heap.size ≤ b) ∧ e = .returned undef) := by
 obtain ⟨a, c, rfl, hmx⟩ := h.form
 obtain ⟨a', c', rfl, hmx'⟩ := hc.form
 have hdoors := hf.doors
 have hFlt := V.lt _ _ _ hI
 have hok := hf.ok
 obtain ⟨locks, hlocks⟩ : ∃ x, x = locksTo n t cuts (getl t 0).length := ⟨_, rfl⟩
 have hll : locks.length ≤ 1000 := by rw [hlocks, locksTo_len]; omega
 have hnn : n = m.c.toNat := by omega
 have hlk : ∀ k, k < locks.length → (getll locks k).length = m.c.toNat := fun k hk => by rw [hlocks]; rw [hlocks, locksTo_len] at hk; rw [lock_len hk, hnn]
 rw [← hlocks] at V ⊢
 have Hlocks := Lib.hid hlocks; clear hlocks
 have Hlk := Lib.hid (And.intro hlk hnn); clear hlk hnn
 obtain ⟨WA, hWA⟩ : ∃ WA, WA = ((W.alloc (.cells #[.int .i64 m.c, .int .i64 m.d, .int .i64 m.s, .int .i64 m.e, .int .i64 m.l, .slice a t.length c] 33)).alloc (.cells #[.slice a' cuts.length c'] 24)).alloc (.cells #[.func (.func f) #[] caps] 53) := ⟨_, rfl⟩
 have hbA : Below W.heap.size W WA := by rw [hWA]; exact by (repeat (first | (with_reducible refine Below.setCell ?_ ?_ _) | (with_reducible refine Below.alloc ?_ ?_ _) | (with_reducible refine Below.drew ?_) | (with_reducible refine below_drewN ?_ _) | (with_reducible exact Below.refl _ _) | (with_reducible assumption) | (with_reducible refine Below.trans ?_ (Below.mono (by with_reducible assumption) ?_)) | go_size))
 have hzA : WA.heap.size = W.heap.size + 3 := by rw [hWA]; simp
 have hA0 : WA.heap[W.heap.size]? = some (.cells #[.int .i64 m.c, .int .i64 m.d, .int .i64 m.s, .int .i64 m.e, .int .i64 m.l, .slice a t.length c] 33 (0, 0)) := by rw [hWA]; simp only [heap_alloc_at, World.size_alloc]; simp; omega
 have hA1 : WA.heap[W.heap.size + 1]? = some (.cells #[.slice a' cuts.length c'] 24 (0, 0)) := by rw [hWA]; simp only [heap_alloc_at, World.size_alloc]; simp
 have hA2 : WA.heap[W.heap.size + 1 + 1]? = some (.cells #[.func (.func f) #[] caps] 53 (0, 0)) := by rw [hWA]; simp only [heap_alloc_at, World.size_alloc]; simp
 have Hf := Lib.hid (And.intro hf (And.intro hn hok)); clear hf hn hok
 have HV := Lib.hid (And.intro V (And.intro hI hFlt)); clear V hI hFlt
 have HzA := Lib.hid hzA; clear hzA
 go_enter Tryz.func60, Tryz.ntmps60
 go_wp2_with fail
 rw [← hWA]
 have HA := Lib.hid (And.intro hA0 (And.intro hA1 hA2)); clear hA0 hA1 hA2
 have HWA := Lib.hid hWA; clear hWA
 refine (partLocks_any m _ _ t cuts n _ Hf.out.1 Hf.out.2.1 (h.below hbA) (hc.below hbA)).mono ?_
 rintro e' wL ⟨lv, rfl, hLk0, hbL⟩
 rw [← Hlocks.out] at hLk0
 obtain ⟨la, lc, rfl, hlm⟩ := hLk0.form
 have hbL0 := hbA.trans (hbL.mono hbA.size)
 have hsz : W.heap.size + 2 < wL.heap.size := by have := hbL.size; have := HzA.out; omega
 have hxL : ∀ o, wL.cell? ⟨W.heap.size, o, none⟩ = (#[.int .i64 m.c, .int .i64 m.d, .int .i64 m.s, .int .i64 m.e, .int .i64 m.l, .slice a t.length c] : Array Value)[o]? := fun o => by
  have := heap_below HA.out.1 hbL (by have := HzA.out; omega)
  exact cell_of_block this o
 obtain ⟨wE, hwE, hbE, hzE, HZE, hcE, hhE⟩ := box_facts wL #[.slice la locks.length lc] 132
 have hxE : ∀ o, (wL.alloc (.cells #[.slice la locks.length lc] 132)).cell? ⟨W.heap.size, o, none⟩ = (#[.int .i64 m.c, .int .i64 m.d, .int .i64 m.s, .int .i64 m.e, .int .i64 m.l, .slice a t.length c] : Array Value)[o]? := fun o => by
  rw [← hwE, (bcell hbE).1 _ _ (by omega), hxL]
 have HhE := Lib.hid hhE; clear hhE hcE
 go_wp2_with fail
 rw [← hwE]
 have HwE := Lib.hid hwE; clear hwE hxL hxE
 have hb0E := hbL0.trans (hbE.mono hbL0.size)
 have hE1 := heap_below (heap_below HA.out.2.1 hbL (by have := HzA.out; omega)) hbE (by omega)
 have hE2 := heap_below (heap_below HA.out.2.2 hbL (by have := HzA.out; omega)) hbE (by omega)
 have hnF : ∀ b, W.heap.size ≤ b → ¬ F0 b := fun b hb hf => by have := HV.out.2.2 b hf; omega
 have VK : VisOk m.c.toNat wE F0 124 #[.pointer (some ⟨W.heap.size + 1, 0, none⟩), .pointer (some ⟨W.heap.size + 1 + 1, 0, none⟩), .pointer (some ⟨wL.heap.size, 0, none⟩)] (outStep step cuts locks) s0 (genF m (fun _ _ => true) [] false m.c.toNat []) Inv := by
  refine ⟨enters_out, HV.out.1.keep, HV.out.1.lt, ?_⟩
  intro s F S w v key done rest hL hs hI hc0 hF hV hS hkl
  have hL' : keysOf m = done ++ key :: rest := (keysA_all m).symm.trans hL
  have hc0' : Chg F0 W w := (Chg.of_below (F := F0) hb0E).trans hc0 (fun i hi => .inl hi)
  have hsz2 := hb0E.size
  have hnb : ∀ b, W.heap.size ≤ b → b < wE.heap.size → ¬ F b := fun b h1 h2 h3 => by
   rcases hF b h3 with h4 | h4
   ·exact hnF b h1 h4
   ·omega
  have hlt1 : W.heap.size + 1 + 1 < wE.heap.size := by have := hbE.size; omega
  refine out_call HV.out.1 (W.heap.size + 1) (W.heap.size + 1 + 1) wL.heap.size (.slice a' cuts.length c') (.slice la locks.length lc) s F S w v key done rest hL' hs hI hc0' (fun b hb => by rcases hF b hb with h4 | h4; exact .inl h4; right; omega) hV hS hkl
   (cell_of_block (hc0.heap hE1 (hnF _ (by omega))) 0) (cell_of_block (hc0.heap hE2 (hnF _ (by omega))) 0) (cell_of_block (hc0.heap HhE.out (hnF _ (by omega))) 0) ⟨hnb _ (by omega) (by omega), hnb _ (by omega) hlt1, hnb _ (by omega) (by omega)⟩ ?_ ?_ hll Hlk.out.1
  ·have h5 : V2 (fun b => ¬ F0 b ∧ b < wE.heap.size) wE (.slice a' cuts.length c') cuts := (hc.below hb0E).mono (fun b h1 h2 => ⟨h1, h2⟩) (fun _ _ _ => rfl)
   exact h5.mono (fun b h1 _ h3 => by rcases hF b h3 with h4 | h4; exact h1.1 h4; have := h1.2; omega) (hc0.keep fun b hb => hb.1)
  ·have h5 : V3 (fun b => ¬ F0 b ∧ b < wE.heap.size) wE (.slice la locks.length lc) locks := (hLk0.below hbE).mono (fun b h1 h2 => ⟨hnF b (by have h1' : WA.heap.size ≤ b := h1; have := HzA.out; omega), h2⟩) (fun _ _ _ => rfl)
   exact h5.mono (fun b h1 _ h3 => by rcases hF b h3 with h4 | h4; exact h1.1 h4; have := h1.2; omega) (hc0.keep fun b hb => hb.1)
 have hIE : Inv s0 F0 wE := HV.out.1.keep _ _ _ _ HV.out.2.1 hb0E.size (fun b hb => hb0E.block b (HV.out.2.2 b hb))
 refine (eachKey_any Hf.out.2.2 wE VK (.inl ⟨rfl, fun _ _ => rfl⟩) hIE).mono ?_
 rintro e w' ⟨F', hinv, hchg, hsub, rfl⟩
 rw [show genF m (fun _ _ => true) [] false m.c.toNat [] = keysOf m from keysA_all m] at hinv
 have Hfin := Lib.hid (And.intro hinv (And.intro hchg hsub)); clear hinv hchg hsub VK hIE
 go_wp2_with fail
 go_end0
 exact ⟨F', Hfin.out.1, (Chg.of_below (F := F0) hb0E).trans Hfin.out.2.1 (fun i hi => .inl hi), (fun b hb => by rcases Hfin.out.2.2 b hb with h4 | h4; exact .inl h4; right; have := hb0E.size; omega), rfl⟩
end
/-- Block G holds the numbers l and nothing else. -/
def BlkI (w : World) (G : Nat) (l : List Int) : Prop := ∃ T, w.heap[G]? = some (.cells (l.map (Value.int .i64)).toArray T (0, 0))
theorem BlkI.cell {w : World} {G k : Nat} {l : List Int} (h : BlkI w G l) (hk : k < l.length) : w.cell? ⟨G, k, none⟩ = some (.int .i64 (geti l k)) := by
 obtain ⟨T, h⟩ := h
 rw [cell_of_block h, geti_eq hk]
 simp [hk]
theorem BlkI.frozen {w : World} {G : Nat} {l : List Int} (h : BlkI w G l) (k : Nat) : w.frozen? ⟨G, k, none⟩ = false := by
 obtain ⟨T, h⟩ := h; exact frozen_of_block h k
theorem BlkI.set {w : World} {G : Nat} {l : List Int} (h : BlkI w G l) (k : Nat) (x : Int) : BlkI (w.setCell ⟨G, k, none⟩ (.int .i64 x)) G (l.set k x) := by
 obtain ⟨T, h⟩ := h
 refine ⟨T, ?_⟩
 rw [heap_setCell_self h]
 congr 2
 apply Array.ext'
 simp [List.map_set]
theorem BlkI.keep {w w' : World} {G : Nat} {l : List Int} (h : BlkI w G l) (hk : w'.heap[G]? = w.heap[G]?) : BlkI w' G l := by
 obtain ⟨T, h⟩ := h; exact ⟨T, by rw [hk]; exact h⟩
theorem BlkI.lt {w : World} {G : Nat} {l : List Int} (h : BlkI w G l) : G < w.heap.size := by
 obtain ⟨T, h⟩ := h; exact lt_of_heap h
theorem BlkI.x1 {w : World} {G off : Nat} {l : List Int} (h : BlkI w G l) (ho : off ≤ l.length) (hl : l.length ≤ 1000000) : X1 w (.slice (some ⟨G, off, none⟩) (l.length - off) (l.length - off)) (l.drop off) G := by
 obtain ⟨T, h⟩ := h
 refine ⟨_, l.length - off, by rw [List.length_drop], by rw [List.length_drop]; exact Nat.le_refl _, by unfold maxLen; omega, fun _ => ⟨off, _, T, rfl, h, fun k hk => ?_⟩⟩
 rw [List.length_drop] at hk
 have e : geti (l.drop off) k = geti l (off + k) := by simp [geti]
 rw [e, geti_eq (by omega)]
 simp [show off + k < l.length from by omega]
theorem blk_made {w : World} {G : Nat} {cs : Array Value} {T : TypeId} {n : Nat} (h : w.heap[G]? = some (.cells cs T (0, 0))) (hc : cs.toList = (madeCells (Value.int .i64 0).cells (n * 1)).toList) : BlkI w G (List.replicate n 0) := by
 refine ⟨T, ?_⟩
 rw [h]
 congr 2
 apply Array.ext'
 rw [hc, Nat.mul_one, show (Value.int .i64 0).cells = #[Value.int .i64 0] from rfl, toList_madeCells_one]
 simp
theorem cntL_set {locks : List (List (List Int))} {ks : List (List Int)} {k : List Int} {lo n : Nat} (h1 : lo ≤ ndoors locks k) (h2 : ndoors locks k < lo + n) :
  (cntL locks ks lo n).set (ndoors locks k - lo) (geti (cntL locks ks lo n) (ndoors locks k - lo) + 1) = cntL locks (ks ++ [k]) lo n := by
 apply List.ext_getElem (by simp [cntL])
 intro i g1 g2
 have hi : i < n := by simpa [cntL] using g2
 rw [List.getElem_set]
 by_cases e : ndoors locks k - lo = i
 ·rw [if_pos e, e, cntL_get hi]
  simp only [cntL, List.getElem_map, List.getElem_range, cntN_snoc]
  rw [if_pos (by omega)]; simp
 ·rw [if_neg e]
  simp only [cntL, List.getElem_map, List.getElem_range, cntN_snoc]
  rw [if_neg (by omega)]; simp
def keepStep (s : List (List Int)) (k : List Int) (ds : List Int) : List (List Int) × Bool := (s ++ [k], true)
theorem keep_run (cuts : List (List Int)) (locks : List (List (List Int))) : ∀ (l s0 : List (List Int)), runL (outStep keepStep cuts locks) s0 l = (s0 ++ outsOf cuts l, true)
 | [], s0 => by simp [runL, outsOf]
 | k :: l, s0 => by
   have e : (outStep keepStep cuts locks s0 k) = (if hasL cuts k = true then s0 else s0 ++ [k], true) := by
    unfold outStep keepStep; split <;> rfl
   simp only [runL, e, if_true]
   rw [keep_run cuts locks l]
   unfold outsOf
   rw [List.filter_cons]
   cases hasL cuts k <;> simp
theorem outsOf_length (cuts ks : List (List Int)) : (outsOf cuts ks).length ≤ ks.length := List.length_filter_le _ _
/-- The counts in block G, seen through the cell in block OB. -/
def PrfInv (locks : List (List (List Int))) (lo N G OB : Nat) (s : List (List Int)) (F : Nat → Prop) (w : World) : Prop :=
 (∀ b, F b ↔ b = G ∨ b = OB) ∧ BlkI w G (cntL locks s lo N) ∧ ∃ T, w.heap[OB]? = some (.cells #[.slice (some ⟨G, 0, none⟩) N N] T (0, 0))
theorem enters_prof : Enters 174 := fun args w => by kernel_rfl
theorem prof1_any {S : Nat → Prop} (kv dv : Value) (ds : List Int) (l : List Int) (G OB : Nat) (T : TypeId) (w : World) (hd : V1 S w dv ds) (hb : BlkI w G l) (hlt : ds.length < l.length) (hl : l.length ≤ 1000) (hx : 0 ≤ geti l ds.length ∧ geti l ds.length ≤ 1000000)
  (hOB : w.heap[OB]? = some (.cells #[.slice (some ⟨G, 0, none⟩) l.length l.length] T (0, 0))) :
  Calls Tryz.prog 174 #[kv, dv, .pointer (some ⟨OB, 0, none⟩)] w fun e w' => e = .returned (.bool true) ∧ w' = w.setCell ⟨G, ds.length, none⟩ (.int .i64 (geti l ds.length + 1)) := by
 obtain ⟨da, dc, rfl, hdm⟩ := hd.form
 have hc := cell_of_block hOB 0
 have hg := hb.cell hlt
 have hf := hb.frozen ds.length
 simp at hc
 obtain ⟨x, hxe⟩ : ∃ x, geti l ds.length = x := ⟨_, rfl⟩
 rw [hxe] at hg hx ⊢
 clear hOB hb hxe
 go_enter Tryz.func174, Tryz.ntmps174
 go_wp2_with fail
 go_ret
 exact ⟨rfl, rfl⟩
theorem prof_ok (m : Mk) (hm : m.ok = true) (cuts : List (List Int)) (locks : List (List (List Int))) (N G OB : Nat) (W : World) (hN : locks.length < N) (hN2 : N ≤ 1000) (hne : G ≠ OB) :
  VisD m.c.toNat W (fun b => b = G ∨ b = OB) 174 #[.pointer (some ⟨OB, 0, none⟩)] keepStep [] (keysOf m) cuts locks (PrfInv locks 0 N G OB) := by
 refine ⟨enters_prof, ?_, ?_, ?_⟩
 ·rintro s F w w' ⟨h1, h2, T, h3⟩ _ h4
  exact ⟨h1, h2.keep (h4 _ ((h1 G).2 (.inl rfl))), T, by rw [h4 _ ((h1 OB).2 (.inr rfl))]; exact h3⟩
 ·rintro s F w ⟨h1, h2, T, h3⟩ b hb
  rcases (h1 b).1 hb with e | e
  ·rw [e]; exact h2.lt
  ·rw [e]; exact lt_of_heap h3
 ·rintro s F S S2 w v dv key done rest hL hr ⟨h1, h2, T, h3⟩ hchg hsub hV hS hD hS2 hlen
  rw [keep_run, List.nil_append] at hr
  simp only [Prod.mk.injEq, and_true] at hr
  have hle := keysOf_length hm
  rw [hL] at hle
  have hol := outsOf_length cuts done
  rw [hr] at hol
  have hnd := ndoors_le locks key
  have hcl := cntL_len locks s 0 N
  have hge := cntL_get (locks := locks) (ks := s) (lo := 0) (n := N) (j := ndoors locks key) (by omega)
  have hcn := cntN_le locks s (0 + ndoors locks key)
  simp at hle
  refine (prof1_any v dv (doorsOf locks key) (cntL locks s 0 N) G OB T w hD h2 (by rw [hcl]; show ndoors locks key < N; omega) (by omega) (by show 0 ≤ geti _ (ndoors locks key) ∧ geti _ (ndoors locks key) ≤ _; rw [hge]; omega) (by rw [hcl]; exact h3)).mono ?_
  rintro e w' ⟨rfl, rfl⟩
  refine ⟨F, rfl, ⟨h1, ?_, T, ?_⟩, (Chg.refl _ _).setCell (.inl ((h1 G).2 (.inl rfl))) _, fun b hb => .inl hb⟩
  ·have := h2.set (ndoors locks key) (geti (cntL locks s 0 N) (ndoors locks key) + 1)
   have e := cntL_set (locks := locks) (ks := s) (k := key) (lo := 0) (n := N) (by omega) (by omega)
   rw [Nat.sub_zero] at e
   rw [e] at this
   exact this
  ·rw [heap_setCell_other _ (fun e => hne e.symm)]; exact h3
set_option maxRecDepth 100000 in
theorem profileOf_any {S S' : Nat → Prop} (m : Mk) (u v : Value) (t cuts : List (List Int)) (n : Nat) (W : World) (hf : Fits m t cuts) (hn : (n : Int) = m.c) (h : V2 S W u t) (hc : V2 S' W v cuts) :
  Calls Tryz.prog 117 #[.agg #[.int .i64 m.c, .int .i64 m.d, .int .i64 m.s, .int .i64 m.e, .int .i64 m.l, u], v] W fun e' w' => ∃ G : Nat, e' = .returned (.slice (some ⟨G, 0, none⟩) ((getl t 0).length + 1) ((getl t 0).length + 1)) ∧ W.heap.size ≤ G ∧
   BlkI w' G (cntL (locksTo n t cuts (getl t 0).length) (outsOf cuts (keysOf m)) 0 ((getl t 0).length + 1)) ∧ Below W.heap.size W w' := by
 obtain ⟨a, c, rfl, hmx⟩ := h.form
 obtain ⟨a', c', rfl, hmx'⟩ := hc.form
 have hrows := hf.rows
 have hdoors := hf.doors
 obtain ⟨W1, hW1, hB01, hz01, HZ01, hc01, hh01⟩ := box_facts W #[.int .i64 m.c, .int .i64 m.d, .int .i64 m.s, .int .i64 m.e, .int .i64 m.l, .slice a t.length c] 33
 have hV1 := (h.below hB01).old
 have hC1 := (hc.below hB01).old
 obtain ⟨b0, off0, a0, c0, rfl, _, hcc0, hr0⟩ := h.cell (k := 0) (by omega)
 simp only [Nat.add_zero] at hcc0
 have Hf := Lib.hid (And.intro hf hn); clear hf hn
 have hN : (getl t 0).length + 1 ≤ 13 := by omega
 obtain ⟨D, hD⟩ : ∃ D, (getl t 0).length = D := ⟨_, rfl⟩
 rw [hD] at hcc0 hdoors hN ⊢
 have hcA : ∀ o1, (W.alloc o1).cell? ⟨b0, off0, none⟩ = some (.slice a0 D c0) := fun o1 => cell_keep hcc0 ((show Below W.heap.size W (W.alloc o1) from by go_grown).block _ (lt_of_cell hcc0))
 obtain ⟨locks, hlocks⟩ : ∃ x, x = locksTo n t cuts D := ⟨_, rfl⟩
 have hll : locks.length = D := by rw [hlocks, locksTo_len]
 rw [← hlocks]
 have HD := Lib.hid (And.intro hD (And.intro hlocks hll)); clear hD hlocks hll hcc0 hr0
 go_enter Tryz.func117, Tryz.ntmps117
 go_wp2_with (at_make; refine wp_mk _ rfl _ _ 44 rfl 2 (.int .i64 0) 1 8 Tryz.underlying44 inf_int (D + 1) rfl rfl (by omega) (by omega) ?_; intro w2 cs0 hh0 hs0 ht0 hB0 hsz0; rw [← hW1] at hh0 hB0 hsz0; have hx2 : ∀ o, w2.cell? ⟨W.heap.size, o, none⟩ = (#[.int .i64 m.c, .int .i64 m.d, .int .i64 m.s, .int .i64 m.e, .int .i64 m.l, .slice (some ⟨b0, off0, none⟩) t.length c] : Array Value)[o]? := (fun o => by rw [(bcell hB0).1 _ _ hz01, hc01]); have hz2 : W.heap.size < w2.heap.size := (by have := hB0.size; omega))
 have hblk := blk_made hh0 ht0
 rw [HZ01.out] at hblk
 obtain ⟨w3, hw3, hb23, hz23, HZ23, hc23, hh23⟩ := box_facts w2 #[.slice (some ⟨W.heap.size + 1, 0, none⟩) (D + 1) (D + 1)] 44
 rw [← hw3]
 have Hw3 := Lib.hid hw3; clear hw3
 have hB13 := hB0.trans (hb23.mono hB0.size)
 have hb2 := hblk.lt
 have hI : PrfInv locks 0 (D + 1) (W.heap.size + 1) w2.heap.size [] (fun b => b = W.heap.size + 1 ∨ b = w2.heap.size) w3 := ⟨fun b => Iff.rfl, by rw [cntL_nil]; exact hblk.keep (hb23.block _ hb2), _, hh23⟩
 have hV3 : V2 (fun b => ¬ (b = W.heap.size + 1 ∨ b = w2.heap.size)) w3 (.slice (some ⟨b0, off0, none⟩) t.length c) t := (hV1.below hB13).mono (fun b h1 h2 => by have h1' : b < W1.heap.size := h1; have := HZ01.out; omega) (fun _ _ _ => rfl)
 have hC3 : V2 (fun b => ¬ (b = W.heap.size + 1 ∨ b = w2.heap.size)) w3 (.slice a' cuts.length c') cuts := (hC1.below hB13).mono (fun b h1 h2 => by have h1' : b < W1.heap.size := h1; have := HZ01.out; omega) (fun _ _ _ => rfl)
 have hok := Hf.out.1.ok
 have hlk : locksTo n t cuts (getl t 0).length = locks := by rw [HD.out.1]; exact HD.out.2.1.symm
 have hvd : VisD m.c.toNat w3 (fun b => b = W.heap.size + 1 ∨ b = w2.heap.size) 174 #[.pointer (some ⟨w2.heap.size, 0, none⟩)] keepStep [] (keysOf m) cuts (locksTo n t cuts (getl t 0).length) (PrfInv locks 0 (D + 1) (W.heap.size + 1) w2.heap.size) := by
  rw [hlk]; exact prof_ok m hok cuts locks (D + 1) (W.heap.size + 1) w2.heap.size w3 (by have := HD.out.2.2; omega) (by omega) (by omega)
 have hall := eachOutsider_any (.slice (some ⟨b0, off0, none⟩) t.length c) (.slice a' cuts.length c') Hf.out.1 Hf.out.2 w3 hvd hI hV3 hC3
 rw [hlk, keep_run, List.nil_append] at hall
 refine hall.mono ?_
 rintro e' w4 ⟨F', ⟨hF', hblk4, T4, hO4⟩, hchg, hsub, rfl⟩
 have hc4 := cell_of_block hO4 0
 simp at hc4
 have Hfin := Lib.hid (And.intro hblk4 hchg); clear hblk4 hchg hall hvd hI hx2 hO4
 go_wp2_with fail
 go_ret
 exact ⟨_, rfl, by omega, Hfin.out.1, hB01.trans ((hB13.trans (Hfin.out.2.to_below (fun i hi => by have := HZ01.out; omega) hB13.size)).mono (by omega))⟩
/-- The keys that begin with l and a cut from x on. -/
def fromB (m : Mk) (rem : Nat) (l : List Int) (x : Nat) : List (List Int) := (depths x m.d.toNat).flatMap fun y => genB m rem (l ++ [y])
theorem fromB_step {m : Mk} {rem : Nat} {l : List Int} {x : Nat} (h : x < m.d.toNat) : fromB m rem l x = genB m rem (l ++ [(x : Int)]) ++ fromB m rem l (x + 1) := by
 unfold fromB; rw [depths_cons h, List.flatMap_cons]
theorem fromB_end {m : Mk} {rem : Nat} {l : List Int} {x : Nat} (h : m.d.toNat ≤ x) : fromB m rem l x = [] := by
 unfold fromB; rw [depths_nil h]; rfl
theorem fromB_next {m : Mk} {rem : Nat} {l : List Int} {x : Nat} {t : List (List Int)} (h : x < m.d.toNat) : nextAns (fromB m rem l x ++ t) = if (nextAns (genB m rem (l ++ [(x : Int)]))).2 = true then nextAns (genB m rem (l ++ [(x : Int)])) else nextAns (fromB m rem l (x + 1) ++ t) := by
 rw [fromB_step h, List.append_assoc, nextAns_append]
/-- The keys behind k that share fewer than n cuts with it. -/
def lowB (m : Mk) (C : Nat) (k : List Int) : Nat → List (List Int)
 | 0 => []
 | n + 1 => fromB m (C - 1 - n) (k.take n) ((geti k n).toNat + 1) ++ lowB m C k n
theorem lowB_all {m : Mk} {C : Nat} {k : List Int} : ∀ n, n ≤ C → behindFrom m C k n ++ lowB m C k n = behindFrom m C k 0
 | 0, _ => by simp [lowB]
 | n + 1, h => by
   rw [← lowB_all n (by omega), behindFrom_step (by omega : n < C), List.append_assoc]
   rfl
theorem lowB_behind (m : Mk) (k : List Int) : lowB m m.c.toNat k m.c.toNat = behind m k := by
 have := lowB_all (m := m) (C := m.c.toNat) (k := k) m.c.toNat (Nat.le_refl _)
 rw [behindFrom_end, List.nil_append] at this
 exact this
theorem own_V1B {w : World} {B : Nat} {e : TypeId} {v : Value} {n : Nat} {l : List Int} {xs : List Value} (h : w.ownsRow B e 1 v n xs) (hx : xs = l.map (Value.int .i64)) : V1 (fun b => B ≤ b) w v l := by
 subst hx; exact (own_F1 h).v1
/-- A key, in memory of S or new. -/
def FirstPost (S : Nat → Prop) (W : World) (a : List Int × Bool) (e' : Ending) (w' : World) : Prop :=
 ∃ v', e' = .returned (.tuple #[v', .bool a.2]) ∧ (a.2 = true → V1 (fun b => S b ∨ W.heap.size ≤ b) w' v' a.1) ∧ Below W.heap.size W w'
set_option maxRecDepth 100000 in
set_option maxHeartbeats 2000000 in
theorem l02First_any (m : Mk) (hm : m.ok = true) : ∀ (rem : Nat) (S : Nat → Prop) (v : Value) (l : List Int) (W : World), V1 S W v l → (l = [] → PV v) → (l.length : Int) + rem = m.c → (∀ k, k < l.length → 0 ≤ geti l k ∧ geti l k ≤ 7) →
  Calls Tryz.prog 119 #[.agg #[.int .i64 m.c, .int .i64 m.d, .int .i64 m.s, .int .i64 m.e, .int .i64 m.l], v] W (FirstPost S W (nextAns (genB m rem l))) := by
 have hmk := Mk.ok_iff.1 hm
 obtain ⟨i0, hi, hz0, hz1, hz2⟩ := info_parts inf_int
 intro rem
 induction rem with
 | zero =>
   intro S v l W h hp hlr hrange
   have hV := h
   have Hrange := Lib.hid hrange; clear hrange
   have Hmk := Lib.hid hmk
   obtain ⟨a, c, rfl, hmx⟩ := h.form
   clear hp hm
   have hlen : l.length ≤ 6 := by omega
   have hl : (l.length : Int) = m.c := by omega
   have e2 : ((l.length : Int) == m.c) = true := by simp [hl]
   have Hl := Lib.hid hl; clear hl hlr hmk
   obtain ⟨W1, hW1, hB01, hz01, HZ01, hc01, hh01⟩ := box_facts W #[.int .i64 m.c, .int .i64 m.d, .int .i64 m.s, .int .i64 m.e, .int .i64 m.l] 31
   have hV1 := hV.below hB01
   cases hb : begins m l
   ·have hfin : nextAns (genB m 0 l) = ([], false) := by unfold genB; rw [if_neg (by rw [hb]; decide)]; rfl
    rw [hfin]
    have Hb := Lib.hid hb; clear hb hfin
    go_enter Tryz.func119, Tryz.ntmps119
    go_wp2_with fail
    rw [← hW1]
    go_wp2_with fail
    refine (l02Begins_b m _ l _ _ Hb.out hV1 (by omega) Hrange.out).mono ?_; rintro e' w2 ⟨rfl, hb_w2⟩; have hB2 := (Below.refl W1.heap.size W1).trans (hb_w2.mono (Below.refl W1.heap.size W1).size)
    clear hc01 hh01
    go_wp2_with fail
    go_ret2
    exact ⟨_, rfl, (fun h => by cases h), hB01.trans (hB2.mono (by omega))⟩
   ·have Hb := Lib.hid hb; clear hb
    obtain ⟨q, hq⟩ : ∃ q, decide (m.l ≤ (kinds l : Int)) = q := ⟨_, rfl⟩
    have hfin : (nextAns (genB m 0 l)).2 = q ∧ (q = true → (nextAns (genB m 0 l)).1 = l) := by
     unfold genB gen; rw [if_pos Hb.out]
     by_cases hk : m.l ≤ (kinds l : Int)
     ·rw [if_pos hk, ← hq, decide_eq_true hk]; exact ⟨rfl, fun _ => rfl⟩
     ·rw [if_neg hk, ← hq, decide_eq_false hk]; exact ⟨rfl, fun h => by cases h⟩
    obtain ⟨ans, hans⟩ : ∃ ans, nextAns (genB m 0 l) = ans := ⟨_, rfl⟩
    rw [hans] at hfin ⊢
    obtain ⟨r1, r2⟩ := ans
    obtain ⟨rfl, hfin⟩ : r2 = q ∧ (q = true → r1 = l) := hfin
    have Hf := Lib.hid hfin; clear hfin hans
    go_enter Tryz.func119, Tryz.ntmps119
    go_wp2_with fail
    rw [← hW1]
    go_wp2_with fail
    refine (l02Begins_b m _ l _ _ Hb.out hV1 (by omega) Hrange.out).mono ?_; rintro e' w2 ⟨rfl, hb_w2⟩; have hB2 := (Below.refl W1.heap.size W1).trans (hb_w2.mono (Below.refl W1.heap.size W1).size)
    have hx2 : ∀ o, (w2).cell? ⟨W.heap.size, o, none⟩ = (#[.int .i64 m.c, .int .i64 m.d, .int .i64 m.s, .int .i64 m.e, .int .i64 m.l] : Array Value)[o]? := fun o => by rw [(bcell hB2).1 _ _ hz01, hc01]
    have HVo := Lib.hid ((hV1.below hB2).mono (S' := fun b => S b ∨ W.heap.size ≤ b) (fun _ h _ => .inl h) (fun _ _ _ => rfl))
    clear hc01 hh01
    go_wp2_with fail
    go_quiet ((go_at_call 139; first | exact quiet_at (l02Kinds_q _ _ _ (V1.drewN (hV1.below hB2))) | exact quiet_at0 (l02Kinds_q _ _ _ (V1.drewN (hV1.below hB2)))))
    go_wp2_with fail
    go_ret2
    exact ⟨_, rfl, (fun h => by rw [Hf.out h]; exact HVo.out.drewN), by repeat' first | refine below_drewN ?_ _ | exact hB01.trans (hB2.mono (by omega))⟩
 | succ rem ih =>
   intro S v l W h hp hlr hrange
   have hV := h
   have Hrange := Lib.hid hrange; clear hrange
   have Hmk := Lib.hid hmk
   obtain ⟨a, c, rfl, hmx⟩ := h.form
   have hlen : l.length ≤ 6 ∧ rem ≤ 5 := by omega
   have hl : ¬ (l.length : Int) = m.c := by omega
   have e2 : ((l.length : Int) == m.c) = false := by simp [hl]
   have Hl := Lib.hid hl; clear hl
   have IH := Lib.hid ih; clear ih
   have Hp := Lib.hid hp; clear hp
   obtain ⟨W1, hW1, hB01, hz01, HZ01, hc01, hh01⟩ := box_facts W #[.int .i64 m.c, .int .i64 m.d, .int .i64 m.s, .int .i64 m.e, .int .i64 m.l] 31
   have hV1 := hV.below hB01
   cases hb : begins m l
   ·have hfin : nextAns (genB m (rem + 1) l) = ([], false) := by unfold genB; rw [if_neg (by rw [hb]; decide)]; rfl
    rw [hfin]
    have Hb := Lib.hid hb; clear hb hlr hmk hfin
    go_enter Tryz.func119, Tryz.ntmps119
    go_wp2_with fail
    rw [← hW1]
    go_wp2_with fail
    refine (l02Begins_b m _ l _ _ Hb.out hV1 (by omega) Hrange.out).mono ?_; rintro e' w2 ⟨rfl, hb_w2⟩; have hB2 := (Below.refl W1.heap.size W1).trans (hb_w2.mono (Below.refl W1.heap.size W1).size)
    clear hc01 hh01
    go_wp2_with fail
    go_ret2
    exact ⟨_, rfl, (fun h => by cases h), hB01.trans (hB2.mono (by omega))⟩
   ·have hfin : genB m (rem + 1) l = fromB m rem l 0 := by rw [genB_succ hb]; rfl
    obtain ⟨ans, hans⟩ : ∃ ans, nextAns (genB m (rem + 1) l) = ans := ⟨_, rfl⟩
    rw [hans]
    have hans0 : ans = nextAns (fromB m rem l 0 ++ []) := by rw [List.append_nil, ← hfin, hans]
    have Hans := Lib.hid hans0; clear hans0 hans hfin
    have Hb := Lib.hid hb; clear hb
    have Hlr := Lib.hid hlr; clear hlr
    obtain ⟨d, hd1, hd2, hd8, hdn⟩ : ∃ d : Nat, m.d ≤ d ∧ (d : Int) ≤ m.d ∧ d ≤ 8 ∧ m.d.toNat = d := ⟨m.d.toNat, by omega, by omega, by omega, rfl⟩
    have Hdn := Lib.hid hdn; clear hdn
    clear hmk
    have Hm := Lib.hid hm; clear hm
    go_enter Tryz.func119, Tryz.ntmps119
    go_wp2_with fail
    rw [← hW1]
    go_wp2_with fail
    refine (l02Begins_b m _ l _ _ Hb.out hV1 (by omega) Hrange.out).mono ?_; rintro e' w2 ⟨rfl, hb_w2⟩; have hB2 := (Below.refl W1.heap.size W1).trans (hb_w2.mono (Below.refl W1.heap.size W1).size)
    have hx2 : ∀ o, (w2).cell? ⟨W.heap.size, o, none⟩ = (#[.int .i64 m.c, .int .i64 m.d, .int .i64 m.s, .int .i64 m.e, .int .i64 m.l] : Array Value)[o]? := fun o => by rw [(bcell hB2).1 _ _ hz01, hc01]
    have Hc01 := Lib.hid hc01; clear hc01
    have HW1 := Lib.hid hW1; clear hW1
    clear hh01
    go_wp2_with fail
    have Hx2 := Lib.hid hx2; clear hx2
    go_loopw [6, 7, 8] (fun i _ _ wr => ∃ x : Nat, x ≤ d ∧ i = .int .i64 (x : Int) ∧ ans = nextAns (fromB m rem l x ++ []) ∧ Below W1.heap.size W1 wr) (fun i _ _ _ => d - (intOf i).toNat)
    case atStart => exact ⟨0, Nat.zero_le _, rfl, Hans.out, hB2⟩
    case round =>
     obtain ⟨x, hx, rfl, hrem, hB⟩ := hrel
     have Hrem := Lib.hid hrem; clear hrem
     have hxr : ∀ o, wr.cell? ⟨W.heap.size, o, none⟩ = (#[.int .i64 m.c, .int .i64 m.d, .int .i64 m.s, .int .i64 m.e, .int .i64 m.l] : Array Value)[o]? := fun o => by rw [(bcell hB).1 _ _ hz01, Hc01.out]
     have hzr := hB.size
     by_cases hxx : x < d
     ·obtain ⟨r, hr⟩ : ∃ r, nextAns (genB m rem (l ++ [(x : Int)])) = r := ⟨_, rfl⟩
      have hnx := fromB_next (m := m) (rem := rem) (l := l) (x := x) (t := []) (by rw [Hdn.out]; exact hxx)
      rw [hr] at hnx
      have Hr := Lib.hid hr; clear hr
      obtain ⟨r1, r2⟩ := r
      have Hnx := Lib.hid hnx; clear hnx
      have hcell0 := hxr 0
      have hcell1 := hxr 1
      have hcell2 := hxr 2
      have hcell3 := hxr 3
      have hcell4 := hxr 4
      simp at hcell0 hcell1 hcell2 hcell3 hcell4
      have Hxr := Lib.hid hxr
      have hbB : W.heap.size < wr.heap.size := by omega
      have hxd : decide ((x : Int) < m.d) = true := by simp; omega
      cases r2
      ·skip
       go_wp2_with fail
       go_region_held3 (fun w' => w'.cell? ⟨W.heap.size, 0, none⟩ = some (.int .i64 m.c) ∧ w'.cell? ⟨W.heap.size, 1, none⟩ = some (.int .i64 m.d) ∧ w'.cell? ⟨W.heap.size, 2, none⟩ = some (.int .i64 m.s) ∧ w'.cell? ⟨W.heap.size, 3, none⟩ = some (.int .i64 m.e) ∧ w'.cell? ⟨W.heap.size, 4, none⟩ = some (.int .i64 m.l) ∧ Below wr.heap.size wr w')
        (first | exact ⟨hcell0, hcell1, hcell2, hcell3, hcell4, (Below.refl _ _).drew⟩ | exact mkB_call hbB (by assumption) (by assumption) | exact mkB_alloc hbB (by assumption) _ | exact mkB_grown hbB (by assumption) (by assumption) (own_lo hown1 (Nat.le_refl _)))
        (first | (go_at_call 77; refine (l01Own_any _ l _ (hV1.below (hB.trans ((mkB_below (by assumption)).mono hzr))) Hp.out (by omega)).mono ?_; rintro e' w' ⟨v1, rfl, hown0, hb⟩; have hzz := Nat.le_trans (mkB_size (by assumption)) hb.size; have hown1 := own_base hown0 (mkB_size (by assumption)); clear hown0) | (refine step_append_lies _ (by rfl) _ _ _ (by rfl) wr.heap.size 2 i0 _ 1 8 Tryz.underlying44 hi hz0 hz1 hz2 rfl (by omega) _ l.length _ (by rfl) (hown1.alloc _) ⟨_, 0, none⟩ 1 1 [.int .i64 x] (by rfl) (by rfl) (World.news_of_block (heap_alloc_new _ _)) (by simp [Value.oneCell']) (by omega) (by unfold maxLen; omega) (by omega) (by simp; omega) _ rfl ?_; intro gg cap w1 hown2 hgrow hat hlt) | (refine step_append_lies _ (by rfl) _ _ _ (by rfl) wr.heap.size 2 i0 _ 1 8 Tryz.underlying44 hi hz0 hz1 hz2 rfl (by omega) _ l.length _ (by rfl) hown1 ⟨_, 0, none⟩ 1 1 [.int .i64 x] (by rfl) (by rfl) (news_old hb) (by simp [Value.oneCell']) (by omega) (by unfold maxLen; omega) (by omega) (by omega) _ rfl ?_; intro gg cap w1 hown2 hgrow hat hlt) | (go_at_call 119; refine (IH.out _ _ (l ++ [(x : Int)]) _ (own_V1B (by assumption) (by simp)) (fun h => by simp at h) (by have := Hlr.out; simp; omega) (range_snoc Hrange.out (by omega))).mono ?_; rintro e' wq ⟨v2, he2, hk2, hb⟩; rw [Hr.out] at he2 hk2; subst he2; have hk3 := (fun hh => V1.mono (S' := fun b => W.heap.size ≤ b) (hk2 hh) (fun b h _ => by have g1 := (hown2.lt _ rfl).1; have g2 := (hown2.lt _ rfl).2; rcases h with h | h <;> exact Nat.le_trans (by omega) h) (fun _ _ _ => rfl)); clear hk2))
       all_goals
        have hBw := mkB_below (w0 := wr) (by assumption)
        have Hk2 := Lib.hid hk3; clear hk3
        go_wp2_with fail
        go_roundw
        case rel => exact ⟨x + 1, by omega, by go_num, by rw [Hrem.out, Hnx.out]; rfl, hB.trans (hBw.mono hzr)⟩
        case measure => simp [intOf]; omega
      ·have ha : ans = (r1, true) := by rw [Hrem.out, Hnx.out]; rfl
       have Ha := Lib.hid ha; clear ha
       go_wp2_with fail
       go_region_held3 (fun w' => w'.cell? ⟨W.heap.size, 0, none⟩ = some (.int .i64 m.c) ∧ w'.cell? ⟨W.heap.size, 1, none⟩ = some (.int .i64 m.d) ∧ w'.cell? ⟨W.heap.size, 2, none⟩ = some (.int .i64 m.s) ∧ w'.cell? ⟨W.heap.size, 3, none⟩ = some (.int .i64 m.e) ∧ w'.cell? ⟨W.heap.size, 4, none⟩ = some (.int .i64 m.l) ∧ Below wr.heap.size wr w')
        (first | exact ⟨hcell0, hcell1, hcell2, hcell3, hcell4, (Below.refl _ _).drew⟩ | exact mkB_call hbB (by assumption) (by assumption) | exact mkB_alloc hbB (by assumption) _ | exact mkB_grown hbB (by assumption) (by assumption) (own_lo hown1 (Nat.le_refl _)))
        (first | (go_at_call 77; refine (l01Own_any _ l _ (hV1.below (hB.trans ((mkB_below (by assumption)).mono hzr))) Hp.out (by omega)).mono ?_; rintro e' w' ⟨v1, rfl, hown0, hb⟩; have hzz := Nat.le_trans (mkB_size (by assumption)) hb.size; have hown1 := own_base hown0 (mkB_size (by assumption)); clear hown0) | (refine step_append_lies _ (by rfl) _ _ _ (by rfl) wr.heap.size 2 i0 _ 1 8 Tryz.underlying44 hi hz0 hz1 hz2 rfl (by omega) _ l.length _ (by rfl) (hown1.alloc _) ⟨_, 0, none⟩ 1 1 [.int .i64 x] (by rfl) (by rfl) (World.news_of_block (heap_alloc_new _ _)) (by simp [Value.oneCell']) (by omega) (by unfold maxLen; omega) (by omega) (by simp; omega) _ rfl ?_; intro gg cap w1 hown2 hgrow hat hlt) | (refine step_append_lies _ (by rfl) _ _ _ (by rfl) wr.heap.size 2 i0 _ 1 8 Tryz.underlying44 hi hz0 hz1 hz2 rfl (by omega) _ l.length _ (by rfl) hown1 ⟨_, 0, none⟩ 1 1 [.int .i64 x] (by rfl) (by rfl) (news_old hb) (by simp [Value.oneCell']) (by omega) (by unfold maxLen; omega) (by omega) (by omega) _ rfl ?_; intro gg cap w1 hown2 hgrow hat hlt) | (go_at_call 119; refine (IH.out _ _ (l ++ [(x : Int)]) _ (own_V1B (by assumption) (by simp)) (fun h => by simp at h) (by have := Hlr.out; simp; omega) (range_snoc Hrange.out (by omega))).mono ?_; rintro e' wq ⟨v2, he2, hk2, hb⟩; rw [Hr.out] at he2 hk2; subst he2; have hk3 := (fun hh => V1.mono (S' := fun b => W.heap.size ≤ b) (hk2 hh) (fun b h _ => by have g1 := (hown2.lt _ rfl).1; have g2 := (hown2.lt _ rfl).2; rcases h with h | h <;> exact Nat.le_trans (by omega) h) (fun _ _ _ => rfl)); clear hk2))
       all_goals
        have hBw := mkB_below (w0 := wr) (by assumption)
        have Hk2 := Lib.hid hk3; clear hk3
        go_wp2_with fail
        go_ret2
        unfold FirstPost
        rw [Ha.out]
        exact ⟨_, rfl, (fun _ => (Hk2.out (by trivial)).mono (fun _ h _ => .inr h) (fun _ _ _ => rfl)), hB01.trans ((hB.trans (hBw.mono hzr)).mono (by omega))⟩
     ·have hfx : ans = ([], false) := by rw [Hrem.out, fromB_end (by rw [Hdn.out]; omega)]; rfl
      have Hfx := Lib.hid hfx; clear hfx
      go_wp2_with fail
      go_ret2
      unfold FirstPost
      rw [Hfx.out]
      exact ⟨_, rfl, (fun h => by cases h), hB01.trans (hB.mono (by omega))⟩
theorem behind_nextAns {m : Mk} {k : List Int} {C : Nat} (hC : m.c.toNat = C) : nextAns (behind m k) = nextAns (lowB m C k C) := by rw [← hC, lowB_behind]
set_option maxRecDepth 100000 in
set_option maxHeartbeats 4000000 in
theorem l02Next_any {S : Nat → Prop} (m : Mk) (hm : m.ok = true) (v : Value) (l : List Int) (W : World) (h : V1 S W v l) (hlr : (l.length : Int) = m.c) (hrange : ∀ k, k < l.length → 0 ≤ geti l k ∧ geti l k ≤ 7) :
  Calls Tryz.prog 121 #[.agg #[.int .i64 m.c, .int .i64 m.d, .int .i64 m.s, .int .i64 m.e, .int .i64 m.l], v] W (FirstPost (fun _ => False) W (nextAns (behind m l))) := by
 have hmk := Mk.ok_iff.1 hm
 obtain ⟨i0, hi, hz0, hz1, hz2⟩ := info_parts inf_int
 obtain ⟨C, hC⟩ : ∃ C, m.c.toNat = C := ⟨_, rfl⟩
 obtain ⟨ans, hans⟩ : ∃ ans, nextAns (behind m l) = ans := ⟨_, rfl⟩
 rw [hans]
 have hans0 : ans = nextAns (lowB m C l C) := by rw [← hans, behind_nextAns hC]
 have hlC : l.length = C := by omega
 have hC6 : 2 ≤ C ∧ C ≤ 6 := by omega
 have hCm : (C : Int) = m.c := by omega
 obtain ⟨b0, off0, c, rfl, hcl⟩ : ∃ b0 off0 c, v = .slice (some ⟨b0, off0, none⟩) l.length c ∧ l.length ≤ c := by
  obtain ⟨a, c, rfl, hc, _⟩ := id h
  obtain ⟨b0, off0, rfl, _⟩ := h.cell (k := 0) (by omega)
  exact ⟨b0, off0, c, rfl, hc⟩
 obtain ⟨d, hd1, hd2, hd8, hdn⟩ : ∃ d : Nat, m.d ≤ d ∧ (d : Int) ≤ m.d ∧ d ≤ 8 ∧ m.d.toNat = d := ⟨m.d.toNat, by omega, by omega, by omega, rfl⟩
 have hlen := h.len
 unfold maxLen at hlen
 have Hdn := Lib.hid hdn; clear hdn
 have Hrange := Lib.hid hrange; clear hrange
 have Hans := Lib.hid hans0; clear hans0 hans
 have Hm := Lib.hid hm; clear hm hmk hC
 have HC := Lib.hid hCm; clear hCm hlr
 have hl1 : l.length ≤ C := by omega
 have hl2 : C ≤ l.length := by omega
 have HlC := Lib.hid hlC; clear hlC
 obtain ⟨W1, hW1, hB01, hz01, HZ01, hc01, hh01⟩ := box_facts W #[.int .i64 m.c, .int .i64 m.d, .int .i64 m.s, .int .i64 m.e, .int .i64 m.l] 31
 have hV1 := h.below hB01
 go_enter Tryz.func121, Tryz.ntmps121
 go_wp2_with fail
 rw [← hW1]
 have Hc01 := Lib.hid hc01; clear hc01
 have HW1 := Lib.hid hW1; clear hW1
 clear hh01
 go_loopw [6, 7, 8, 9] (fun i _ _ _ wr => ∃ (j : Nat) (z : Int), j ≤ C ∧ i = .int .i64 z ∧ z = (j : Int) - 1 ∧ ans = nextAns (lowB m C l j) ∧ Below W1.heap.size W1 wr) (fun i _ _ _ _ => (intOf i + 1).toNat)
 case atStart => exact ⟨C, _, Nat.le_refl _, rfl, by rw [HlC.out], Hans.out, Below.refl _ _⟩
 case round =>
  obtain ⟨j, z, hj, rfl, hz, hrem, hBo⟩ := hrel
  have Hrem := Lib.hid hrem; clear hrem
  obtain ⟨wo, rfl⟩ : ∃ wo, wo = wr := ⟨_, rfl⟩
  have hzo := hBo.size
  by_cases hj0 : j = 0
  ·have hfx : ans = ([], false) := by rw [Hrem.out, hj0]; rfl
   subst hj0
   have hzn : z < 0 := by omega
   have Hz := Lib.hid hz; clear hz
   have Hfx := Lib.hid hfx; clear hfx
   go_wp2_with fail
   go_ret2
   unfold FirstPost
   rw [Hfx.out]
   exact ⟨_, rfl, (fun h => by cases h), hB01.trans (hBo.mono (by omega))⟩
  ·obtain ⟨n, rfl⟩ : ∃ n, j = n + 1 := ⟨j - 1, by omega⟩
   obtain rfl : z = (n : Int) := by omega
   clear hz
   have hnl : n < l.length := by omega
   have hrg := Hrange.out n hnl
   obtain ⟨b1, off1, e1, _, hc1⟩ := (hV1.below hBo).cell hnl
   simp only [Option.some.injEq, Addr.mk.injEq, and_true] at e1
   obtain ⟨rfl, rfl⟩ := e1
   obtain ⟨g, hg, hg7⟩ : ∃ g : Nat, geti l n = g ∧ g ≤ 7 := ⟨(geti l n).toNat, by omega, by omega⟩
   rw [hg] at hc1
   have hst : lowB m C l (n + 1) = fromB m (C - 1 - n) (l.take n) (g + 1) ++ lowB m C l n := by rw [lowB, hg, Int.toNat_natCast]
   have Hst := Lib.hid hst; clear hst
   have htk : V1 S wo (.slice (some ⟨b0, off0, none⟩) n c) (l.take n) := (hV1.below hBo).take (by omega)
   have htl : (l.take n).length = n := by rw [List.length_take]; omega
   have hrt : ∀ x : Nat, x < 8 → ∀ k, k < (l.take n ++ [(x : Int)]).length → 0 ≤ geti (l.take n ++ [(x : Int)]) k ∧ geti (l.take n ++ [(x : Int)]) k ≤ 7 := fun x hx => range_snoc (fun k hk => by rw [htl] at hk; rw [geti_take hk]; exact Hrange.out k (by omega)) hx
   have Hrt0 := Lib.hid hrt; clear hrt hrg hg
   have Htl := Lib.hid htl; clear htl
   have hpv : l.take n = [] → PV (.slice (some ⟨b0, off0, none⟩) n c) := fun _ => .inr ⟨_, _, _, _, rfl⟩
   have Hpv := Lib.hid hpv; clear hpv
   have hn0 : (0 : Int) ≤ (n : Int) := by omega
   have hnc : (n : Int) ≤ (c : Int) := by omega
   go_wp2_with fail
   clear hc1
   go_loopw [7, 8, 9] (fun i _ _ wr => ∃ x : Nat, g + 1 ≤ x ∧ x ≤ max d (g + 1) ∧ i = .int .i64 (x : Int) ∧ ans = nextAns (fromB m (C - 1 - n) (l.take n) x ++ lowB m C l n) ∧ Below wo.heap.size wo wr) (fun i _ _ _ => d - (intOf i).toNat)
   case atStart => exact ⟨g + 1, Nat.le_refl _, by omega, by go_num, by rw [← Hst.out]; exact Hrem.out, Below.refl _ _⟩
   case round =>
    obtain ⟨x, hx1, hx2, rfl, hrem, hBn⟩ := hrel
    have Hrem2 := Lib.hid hrem; clear hrem
    have hzr := hBn.size
    have hBW := hBo.trans (hBn.mono hzo)
    have hxr : ∀ o, wr.cell? ⟨W.heap.size, o, none⟩ = (#[.int .i64 m.c, .int .i64 m.d, .int .i64 m.s, .int .i64 m.e, .int .i64 m.l] : Array Value)[o]? := fun o => by rw [(bcell hBW).1 _ _ hz01, Hc01.out]
    by_cases hxx : x < d
    ·obtain ⟨r, hr⟩ : ∃ r, nextAns (genB m (C - 1 - n) (l.take n ++ [(x : Int)])) = r := ⟨_, rfl⟩
     have hnx := fromB_next (m := m) (rem := C - 1 - n) (l := l.take n) (x := x) (t := lowB m C l n) (by rw [Hdn.out]; exact hxx)
     rw [hr] at hnx
     have Hr := Lib.hid hr; clear hr
     obtain ⟨r1, r2⟩ := r
     have Hnx := Lib.hid hnx; clear hnx
     have htk := htk.below hBn
     have Hrt := Lib.hid (Hrt0.out x (by omega))
     have hcell0 := hxr 0
     have hcell1 := hxr 1
     have hcell2 := hxr 2
     have hcell3 := hxr 3
     have hcell4 := hxr 4
     simp at hcell0 hcell1 hcell2 hcell3 hcell4
     have Hxr := Lib.hid hxr
     have hbB : W.heap.size < wr.heap.size := by omega
     have hxd : decide ((x : Int) < m.d) = true := by simp; omega
     cases r2
     ·skip
      go_wp2_with fail
      go_region_held3 (fun w' => w'.cell? ⟨W.heap.size, 0, none⟩ = some (.int .i64 m.c) ∧ w'.cell? ⟨W.heap.size, 1, none⟩ = some (.int .i64 m.d) ∧ w'.cell? ⟨W.heap.size, 2, none⟩ = some (.int .i64 m.s) ∧ w'.cell? ⟨W.heap.size, 3, none⟩ = some (.int .i64 m.e) ∧ w'.cell? ⟨W.heap.size, 4, none⟩ = some (.int .i64 m.l) ∧ Below wr.heap.size wr w')
       (first | exact ⟨hcell0, hcell1, hcell2, hcell3, hcell4, (Below.refl _ _).drew⟩ | exact mkB_call hbB (by assumption) (by assumption) | exact mkB_alloc hbB (by assumption) _ | exact mkB_grown hbB (by assumption) (by assumption) (own_lo hown1 (Nat.le_refl _)))
       (first | (go_at_call 77; refine (l01Own_any _ (l.take n) _ (htk.below ((mkB_below (by assumption)))) Hpv.out (by rw [Htl.out]; omega)).mono ?_; rintro e' w' ⟨v1, rfl, hown0, hb⟩; rw [Htl.out] at hown0; have hzz := Nat.le_trans (mkB_size (by assumption)) hb.size; have hown1 := own_base hown0 (mkB_size (by assumption)); clear hown0) | (refine step_append_lies _ (by rfl) _ _ _ (by rfl) wr.heap.size 2 i0 _ 1 8 Tryz.underlying44 hi hz0 hz1 hz2 rfl (by omega) _ n _ (by rfl) (hown1.alloc _) ⟨_, 0, none⟩ 1 1 [.int .i64 x] (by rfl) (by rfl) (World.news_of_block (heap_alloc_new _ _)) (by simp [Value.oneCell']) (by omega) (by unfold maxLen; omega) (by omega) (by simp; omega) _ rfl ?_; intro gg cap w1 hown2 hgrow hat hlt) | (refine step_append_lies _ (by rfl) _ _ _ (by rfl) wr.heap.size 2 i0 _ 1 8 Tryz.underlying44 hi hz0 hz1 hz2 rfl (by omega) _ n _ (by rfl) hown1 ⟨_, 0, none⟩ 1 1 [.int .i64 x] (by rfl) (by rfl) (news_old hb) (by simp [Value.oneCell']) (by omega) (by unfold maxLen; omega) (by omega) (by omega) _ rfl ?_; intro gg cap w1 hown2 hgrow hat hlt) | (go_at_call 119; refine (l02First_any m Hm.out (C - 1 - n) _ _ (l.take n ++ [(x : Int)]) _ (own_V1B (by assumption) (by simp)) (fun h => by simp at h) (by have := Htl.out; have := HC.out; simp [Htl.out]; omega) Hrt.out).mono ?_; rintro e' wq ⟨v2, he2, hk2, hb⟩; rw [Hr.out] at he2 hk2; subst he2; have hk3 := (fun hh => V1.mono (S' := fun b => W.heap.size ≤ b) (hk2 hh) (fun b h _ => by have g1 := (hown2.lt _ rfl).1; have g2 := (hown2.lt _ rfl).2; rcases h with h | h <;> exact Nat.le_trans (by omega) h) (fun _ _ _ => rfl)); clear hk2))
      all_goals
       have hBw := mkB_below (w0 := wr) (by assumption)
       have Hk2 := Lib.hid hk3; clear hk3
       go_wp2_with fail
       go_roundw
       case rel => exact ⟨x + 1, by omega, by omega, by go_num, by rw [Hrem2.out, Hnx.out]; rfl, hBn.trans (hBw.mono hzr)⟩
       case measure => simp [intOf]; omega
     ·have ha : ans = (r1, true) := by rw [Hrem2.out, Hnx.out]; rfl
      have Ha := Lib.hid ha; clear ha
      go_wp2_with fail
      go_region_held3 (fun w' => w'.cell? ⟨W.heap.size, 0, none⟩ = some (.int .i64 m.c) ∧ w'.cell? ⟨W.heap.size, 1, none⟩ = some (.int .i64 m.d) ∧ w'.cell? ⟨W.heap.size, 2, none⟩ = some (.int .i64 m.s) ∧ w'.cell? ⟨W.heap.size, 3, none⟩ = some (.int .i64 m.e) ∧ w'.cell? ⟨W.heap.size, 4, none⟩ = some (.int .i64 m.l) ∧ Below wr.heap.size wr w')
       (first | exact ⟨hcell0, hcell1, hcell2, hcell3, hcell4, (Below.refl _ _).drew⟩ | exact mkB_call hbB (by assumption) (by assumption) | exact mkB_alloc hbB (by assumption) _ | exact mkB_grown hbB (by assumption) (by assumption) (own_lo hown1 (Nat.le_refl _)))
       (first | (go_at_call 77; refine (l01Own_any _ (l.take n) _ (htk.below ((mkB_below (by assumption)))) Hpv.out (by rw [Htl.out]; omega)).mono ?_; rintro e' w' ⟨v1, rfl, hown0, hb⟩; rw [Htl.out] at hown0; have hzz := Nat.le_trans (mkB_size (by assumption)) hb.size; have hown1 := own_base hown0 (mkB_size (by assumption)); clear hown0) | (refine step_append_lies _ (by rfl) _ _ _ (by rfl) wr.heap.size 2 i0 _ 1 8 Tryz.underlying44 hi hz0 hz1 hz2 rfl (by omega) _ n _ (by rfl) (hown1.alloc _) ⟨_, 0, none⟩ 1 1 [.int .i64 x] (by rfl) (by rfl) (World.news_of_block (heap_alloc_new _ _)) (by simp [Value.oneCell']) (by omega) (by unfold maxLen; omega) (by omega) (by simp; omega) _ rfl ?_; intro gg cap w1 hown2 hgrow hat hlt) | (refine step_append_lies _ (by rfl) _ _ _ (by rfl) wr.heap.size 2 i0 _ 1 8 Tryz.underlying44 hi hz0 hz1 hz2 rfl (by omega) _ n _ (by rfl) hown1 ⟨_, 0, none⟩ 1 1 [.int .i64 x] (by rfl) (by rfl) (news_old hb) (by simp [Value.oneCell']) (by omega) (by unfold maxLen; omega) (by omega) (by omega) _ rfl ?_; intro gg cap w1 hown2 hgrow hat hlt) | (go_at_call 119; refine (l02First_any m Hm.out (C - 1 - n) _ _ (l.take n ++ [(x : Int)]) _ (own_V1B (by assumption) (by simp)) (fun h => by simp at h) (by have := Htl.out; have := HC.out; simp [Htl.out]; omega) Hrt.out).mono ?_; rintro e' wq ⟨v2, he2, hk2, hb⟩; rw [Hr.out] at he2 hk2; subst he2; have hk3 := (fun hh => V1.mono (S' := fun b => W.heap.size ≤ b) (hk2 hh) (fun b h _ => by have g1 := (hown2.lt _ rfl).1; have g2 := (hown2.lt _ rfl).2; rcases h with h | h <;> exact Nat.le_trans (by omega) h) (fun _ _ _ => rfl)); clear hk2))
      all_goals
       have hBw := mkB_below (w0 := wr) (by assumption)
       have Hk2 := Lib.hid hk3; clear hk3
       go_wp2_with fail
       go_ret2
       unfold FirstPost
       rw [Ha.out]
       exact ⟨_, rfl, (fun _ => (Hk2.out (by trivial)).mono (fun _ h _ => .inr h) (fun _ _ _ => rfl)), hB01.trans ((hBW.trans (hBw.mono (by omega))).mono (by omega))⟩
    ·have hfx : ans = nextAns (lowB m C l n) := by rw [Hrem2.out, fromB_end (by rw [Hdn.out]; omega), List.nil_append]
     have Hfx := Lib.hid hfx; clear hfx
     go_wp2_with fail
     go_roundw
     case rel => exact ⟨n, _, by omega, rfl, by omega, Hfx.out, hBW⟩
     case measure => simp [intOf]
end Go.Proofs.YtmjplkbmhdkggaaGreat
