/- Whether open partial cuts stay open with one more key: a plain law. No program here. No conditions. -/
import Derived.Deep.RegionHeld3
import Derived.Test.YtmjplkbmhdkggaaGreatMFalse
import Derived.Test.YtmjplkbmhdkggaaGreatMClone2
import Derived.Test.YtmjplkbmhdkggaaGreatMDraw23
import Derived.Test.YtmjplkbmhdkggaaGreatMEach5
namespace Go.Proofs.YtmjplkbmhdkggaaGreat
open Go.RowKit
set_option linter.unusedVariables false
set_option linter.unusedSimpArgs false
/-- Cuts open a lock to whose sets those of a key are added. -/
def opensWithB (l : List (List Int)) (key cuts : List Int) : Bool := upAll (fun i => decide (geti cuts i = geti key i) || hasI (getl l i) (geti cuts i)) cuts.length 0
theorem opensWithB_iff {l : List (List Int)} {key cuts : List Int} : opensWithB l key cuts = true ↔ ∀ i, i < cuts.length → geti cuts i = geti key i ∨ geti cuts i ∈ getl l i := by
 unfold opensWithB; rw [upAll_iff]
 simp only [Bool.or_eq_true, decide_eq_true_eq, hasI_iff]
/-- Door d is not opened falsely with the key of the next row. -/
def stayD (t cuts : List (List Int)) (locks : List (List (List Int))) (key : List Int) (d : Nat) : Bool :=
 !(decide (geti (getl t cuts.length) d = 0) && opensB (getll locks d) key) && upAll (fun k => !(decide (geti (getl t cuts.length) d = 1) && decide (geti (getl t k) d = 0) && opensWithB (getll locks d) key (getl cuts k))) cuts.length 0
def staysB (t cuts : List (List Int)) (locks : List (List (List Int))) (key : List Int) : Bool := upAll (stayD t cuts locks key) (getl t 0).length 0
theorem doorCuts_snoc {t cuts : List (List Int)} {d : Nat} {key : List Int} : ∀ {k : Nat}, k ≤ cuts.length → doorCuts t (cuts ++ [key]) d k = doorCuts t cuts d k
 | 0, _ => rfl
 | k + 1, h => by
   unfold doorCuts
   rw [doorCuts_snoc (by omega), getl_append1 (by omega)]
theorem doorCuts_more {t cuts : List (List Int)} {d : Nat} {key : List Int} : doorCuts t (cuts ++ [key]) d (cuts.length + 1) = if geti (getl t cuts.length) d = 1 then doorCuts t cuts d cuts.length ++ [key] else doorCuts t cuts d cuts.length := by
 rw [doorCuts, doorCuts_snoc (Nat.le_refl _), getl_last]
theorem mem_lock {n : Nat} {t cuts : List (List Int)} {d c : Nat} {x : Int} (hc : c < n) : x ∈ getl (lockR n t cuts d) c ↔ ∃ k ∈ doorCuts t cuts d cuts.length, geti k c = x := by
 rw [lockR, hullR_get hc, (diffI_sort _).2]
 unfold colOf
 rw [List.mem_map]
theorem stay_iff {n : Nat} {t cuts : List (List Int)} {key : List Int} (hlk : key.length = n) (hlc : ∀ k, k < cuts.length → (getl cuts k).length = n) (hbits : ∀ d, d < (getl t 0).length → geti (getl t cuts.length) d = 0 ∨ geti (getl t cuts.length) d = 1)
  (h0 : falseL n t cuts = []) : staysB t cuts (locksTo n t cuts (getl t 0).length) key = true ↔ falseL n t (cuts ++ [key]) = [] := by
 have hno : ∀ i d, i < cuts.length → d < (getl t 0).length → geti (getl t i) d = 0 → ¬ opensB (lockR n t cuts d) (getl cuts i) = true := fun i d hi hd ha ho => by
  have : [(i : Int), (d : Int)] ∈ falseL n t cuts := mem_falseRows.2 ⟨i, d, hi, hd, rfl, ha, by rw [locksTo_get hd]; exact ho⟩
  rw [h0] at this; cases this
 have hlen1 : (cuts ++ [key]).length = cuts.length + 1 := by simp
 have hsame : ∀ d, geti (getl t cuts.length) d ≠ 1 → lockR n t (cuts ++ [key]) d = lockR n t cuts d := fun d hd => by unfold lockR; rw [hlen1, doorCuts_more, if_neg hd]
 have hmore : ∀ d c x, c < n → geti (getl t cuts.length) d = 1 → (x ∈ getl (lockR n t (cuts ++ [key]) d) c ↔ x = geti key c ∨ x ∈ getl (lockR n t cuts d) c) := fun d c x hc hd => by
  rw [mem_lock hc, mem_lock hc, hlen1, doorCuts_more, if_pos hd]
  constructor
  ·rintro ⟨k, hk, rfl⟩
   rcases List.mem_append.1 hk with hk | hk
   ·exact .inr ⟨k, hk, rfl⟩
   ·exact .inl (by rw [List.mem_singleton.1 hk])
  ·rintro (rfl | ⟨k, hk, rfl⟩)
   ·exact ⟨key, List.mem_append.2 (.inr (List.mem_singleton.2 rfl)), rfl⟩
   ·exact ⟨k, List.mem_append.2 (.inl hk), rfl⟩
 have hfalse : falseL n t (cuts ++ [key]) = [] ↔ ∀ i d, i < cuts.length + 1 → d < (getl t 0).length → geti (getl t i) d = 0 → ¬ opensB (lockR n t (cuts ++ [key]) d) (getl (cuts ++ [key]) i) = true := by
  constructor
  ·intro h i d hi hd ha ho
   have : [(i : Int), (d : Int)] ∈ falseL n t (cuts ++ [key]) := mem_falseRows.2 ⟨i, d, by rw [hlen1]; exact hi, hd, rfl, ha, by rw [locksTo_get hd]; exact ho⟩
   rw [h] at this; cases this
  ·intro h
   refine List.eq_nil_iff_forall_not_mem.2 fun x hx => ?_
   obtain ⟨i, d, hi, hd, rfl, ha, ho⟩ := mem_falseRows.1 hx
   rw [hlen1] at hi
   rw [locksTo_get hd] at ho
   exact h i d hi hd ha ho
 rw [hfalse]
 unfold staysB
 rw [upAll_iff]
 simp only [stayD, Bool.and_eq_true, Bool.not_eq_true', upAll_iff]
 constructor
 ·intro h i d hi hd ha ho
  obtain ⟨h1, h2⟩ := h d hd
  rw [locksTo_get hd] at h1 h2
  by_cases hi2 : i < cuts.length
  ·rw [getl_append1 hi2] at ho
   rcases hbits d hd with hb | hb
   ·rw [hsame d (by omega)] at ho
    exact hno i d hi2 hd ha ho
   ·have h3 := h2 i hi2
    rw [hb, ha] at h3
    simp only [decide_true, Bool.true_and] at h3
    rw [← Bool.not_eq_true, opensWithB_iff] at h3
    refine h3 fun c hc => ?_
    have hcn : c < n := by rw [← hlc i hi2]; exact hc
    exact (hmore d c _ hcn hb).1 (opensB_iff.1 ho c hc)
  ·have e : i = cuts.length := by omega
   subst e
   rw [getl_last, hsame d (by omega)] at ho
   rw [ha, ho] at h1
   simp at h1
 ·intro h d hd
  rw [locksTo_get hd]
  refine ⟨?_, fun k hk => ?_⟩
  ·by_cases ha : geti (getl t cuts.length) d = 0
   ·have h1 := h cuts.length d (by omega) hd ha
    rw [getl_last, hsame d (by omega)] at h1
    rw [ha]; simpa using h1
   ·simp [ha]
  ·by_cases hb : geti (getl t cuts.length) d = 1
   ·by_cases ha : geti (getl t k) d = 0
    ·have h1 := h k d (by omega) hd ha
     rw [getl_append1 hk] at h1
     rw [hb, ha]
     simp only [decide_true, Bool.true_and]
     rw [← Bool.not_eq_true, opensWithB_iff]
     intro h2
     refine h1 (opensB_iff.2 fun c hc => ?_)
     have hcn : c < n := by rw [← hlc k hk]; exact hc
     exact (hmore d c _ hcn hb).2 (h2 c hc)
    ·simp [ha]
   ·simp [hb]
/-- The tries, whether the limit was met, and what is kept of the designs. -/
abbrev GSt (τ : Type) := Nat × Bool × τ
section
variable {τ : Type}
def goStep (limit : Nat) (stay : List (List Int) → List Int → Bool) (rec : List (List Int) → GSt τ → GSt τ × Bool) (cuts : List (List Int)) (s : GSt τ) (key : List Int) : GSt τ × Bool :=
 if s.1 = limit then ((s.1, true, s.2.2), false)
 else if stay cuts key = true then rec (cuts ++ [key]) (s.1 + 1, s.2.1, s.2.2) else ((s.1 + 1, s.2.1, s.2.2), true)
def goF (limit : Nat) (stay : List (List Int) → List Int → Bool) (vis : τ → List (List Int) → τ × Bool) (keys : List (List Int)) : Nat → List (List Int) → GSt τ → GSt τ × Bool
 | 0 => fun cuts s => ((s.1, s.2.1, (vis s.2.2 cuts).1), (vis s.2.2 cuts).2)
 | d + 1 => fun cuts s => runL (goStep limit stay (goF limit stay vis keys d) cuts) s keys
theorem goStep_le {limit : Nat} {stay : List (List Int) → List Int → Bool} {rec : List (List Int) → GSt τ → GSt τ × Bool} (hr : ∀ c s, s.1 ≤ limit → (rec c s).1.1 ≤ limit) {cuts : List (List Int)} {s : GSt τ} {key : List Int} (h : s.1 ≤ limit) : (goStep limit stay rec cuts s key).1.1 ≤ limit := by
 unfold goStep
 split
 ·exact h
 ·split
  ·exact hr _ _ (by show s.1 + 1 ≤ limit; omega)
  ·show s.1 + 1 ≤ limit; omega
theorem runL_le {limit : Nat} {f : GSt τ → List Int → GSt τ × Bool} (hf : ∀ s k, s.1 ≤ limit → (f s k).1.1 ≤ limit) : ∀ (l : List (List Int)) (s : GSt τ), s.1 ≤ limit → (runL f s l).1.1 ≤ limit
 | [], s, h => h
 | k :: l, s, h => by
   unfold runL
   split
   ·exact runL_le hf l _ (hf s k h)
   ·exact hf s k h
theorem goF_le {limit : Nat} {stay : List (List Int) → List Int → Bool} {vis : τ → List (List Int) → τ × Bool} {keys : List (List Int)} : ∀ {d : Nat} {cuts : List (List Int)} {s : GSt τ}, s.1 ≤ limit → (goF limit stay vis keys d cuts s).1.1 ≤ limit
 | 0, _, s, h => h
 | d + 1, cuts, s, h => runL_le (fun s k hs => goStep_le (fun c s hs => goF_le hs) hs) keys s h
end
def openP (n : Nat) (t : List (List Int)) (cuts : List (List Int)) : Bool := decide ((falseL n t cuts).length = 0)
def stayP (n : Nat) (t : List (List Int)) (cuts : List (List Int)) (key : List Int) : Bool := openP n t (cuts ++ [key])
/-- At most so many designs are kept. -/
def visK (most : Int) (s : List (List (List Int))) (design : List (List Int)) : List (List (List Int)) × Bool := (s ++ [design], decide ((s.length : Int) + 1 < most))
def firstF (n : Nat) (t keys cuts : List (List Int)) (most : Int) (limit : Nat) : GSt (List (List (List Int))) :=
 if 0 < most then (goF limit (stayP n t) (visK most) keys (t.length - cuts.length) cuts (0, false, [])).1 else (0, false, [])
/-- The search behind the key of a row, row by row. -/
def backF (m : Mk) (n : Nat) (t cuts : List (List Int)) (limit row : Nat) (s : GSt (List (List (List Int)))) : GSt (List (List (List Int))) × Bool :=
 runL (goStep limit (stayP n t) (goF limit (stayP n t) (visK 1) (keysOf m) (t.length - row - 1)) (cuts.take row)) s (behind m (getl cuts row))
def nextF (m : Mk) (n : Nat) (t cuts : List (List Int)) (limit : Nat) : Nat → GSt (List (List (List Int))) → GSt (List (List (List Int)))
 | 0, s => s
 | r + 1, s => if (backF m n t cuts limit r s).2 = true then nextF m n t cuts limit r (backF m n t cuts limit r s).1 else (backF m n t cuts limit r s).1
/-- Nothing is found and the limit is not met, exactly as long as the search goes on. -/
def actK (s : GSt (List (List (List Int)))) : Prop := s.2.1 = false ∧ s.2.2 = []
theorem goStep_actK {limit : Nat} {stay : List (List Int) → List Int → Bool} {rec : List (List Int) → GSt (List (List (List Int))) → GSt (List (List (List Int))) × Bool}
  (hr : ∀ c s, actK s → ((rec c s).2 = true ↔ actK (rec c s).1)) {cuts : List (List Int)} {s : GSt (List (List (List Int)))} {key : List Int} (h : actK s) : (goStep limit stay rec cuts s key).2 = true ↔ actK (goStep limit stay rec cuts s key).1 := by
 unfold goStep
 split
 ·constructor
  ·intro h; cases h
  ·intro h; have := h.1; cases this
 ·split
  ·exact hr _ _ h
  ·exact ⟨fun _ => h, fun _ => rfl⟩
theorem runL_actK {f : GSt (List (List (List Int))) → List Int → GSt (List (List (List Int))) × Bool} (hf : ∀ s k, actK s → ((f s k).2 = true ↔ actK (f s k).1)) : ∀ (l : List (List Int)) (s : GSt (List (List (List Int)))), actK s → ((runL f s l).2 = true ↔ actK (runL f s l).1)
 | [], s, h => ⟨fun _ => h, fun _ => rfl⟩
 | k :: l, s, h => by
   unfold runL
   by_cases hk : (f s k).2 = true
   ·rw [if_pos hk]; exact runL_actK hf l _ ((hf s k h).1 hk)
   ·rw [if_neg hk]
    exact ⟨fun h2 => (by cases h2), fun h2 => absurd ((hf s k h).2 h2) hk⟩
theorem goF_actK {limit : Nat} {stay : List (List Int) → List Int → Bool} {keys : List (List Int)} : ∀ {d : Nat} {cuts : List (List Int)} {s : GSt (List (List (List Int)))}, actK s → ((goF limit stay (visK 1) keys d cuts s).2 = true ↔ actK (goF limit stay (visK 1) keys d cuts s).1)
 | 0, cuts, s, h => by
   constructor
   ·intro h2
    have h3 : decide ((s.2.2.length : Int) + 1 < 1) = true := h2
    have := of_decide_eq_true h3
    omega
   ·intro h2
    have h3 : s.2.2 ++ [cuts] = [] := h2.2
    simp at h3
 | d + 1, cuts, s, h => runL_actK (fun s k hs => goStep_actK (fun c s hs => goF_actK hs) hs) keys s h
theorem backF_actK {m : Mk} {n : Nat} {t cuts : List (List Int)} {limit row : Nat} {s : GSt (List (List (List Int)))} (h : actK s) : (backF m n t cuts limit row s).2 = true ↔ actK (backF m n t cuts limit row s).1 :=
 runL_actK (fun s k hs => goStep_actK (fun c s hs => goF_actK hs) hs) _ s h
abbrev DSt := GSt (List (List (List Int)))
/-- The code of a system, partial cuts and a limit. -/
def searchC (m : Mk) (t cuts : List (List Int)) (limit : Int) : Int :=
 if partC m t cuts ≠ 0 then partC m t cuts else if ¬ (0 ≤ limit ∧ limit ≤ 4000) then 2 else if (falseL m.c.toNat t cuts).length ≠ 0 then 5 else 0
theorem searchC_ok {m : Mk} {t cuts : List (List Int)} {limit : Int} : searchC m t cuts limit = 0 ↔ PartOk m t cuts ∧ (0 ≤ limit ∧ limit ≤ 4000) ∧ falseL m.c.toNat t cuts = [] := by
 unfold searchC
 constructor
 ·intro h
  by_cases h1 : partC m t cuts ≠ 0
  ·rw [if_pos h1] at h; exact absurd h h1
  ·rw [if_neg h1] at h
   have h1' := partC_ok.1 (Decidable.not_not.1 h1)
   by_cases h2 : 0 ≤ limit ∧ limit ≤ 4000
   ·rw [if_neg (by simpa using h2)] at h
    by_cases h3 : (falseL m.c.toNat t cuts).length ≠ 0
    ·rw [if_pos h3] at h; cases h
    ·exact ⟨⟨h1'.1, h1'.2.1, h1'.2.2⟩, h2, List.length_eq_zero_iff.1 (Decidable.not_not.1 h3)⟩
   ·rw [if_pos h2] at h; cases h
 ·rintro ⟨h1, h2, h3⟩
  rw [if_neg (by rw [h1.c]; simp), if_neg (by simpa using h2), if_neg (by rw [h3]; simp)]
def pickA (s : DSt) : List (List Int) × Int × Int :=
 match s.2.2 with
 | d :: _ => (d, (s.1 : Int), 0)
 | [] => if s.2.1 = true then ([], 0, 3) else ([], 0, 4)
def findAns (m : Mk) (t cuts : List (List Int)) (limit : Int) : List (List Int) × Int × Int :=
 if searchC m t cuts limit ≠ 0 then ([], 0, searchC m t cuts limit) else pickA (firstF m.c.toNat t (keysOf m) cuts 1 limit.toNat)
/-- A design of the search: cuts for all rows. -/
structure DesOk (m : Mk) (t ds : List (List Int)) : Prop where
 part : PartOk m t ds
 full : ds.length ≤ t.length
theorem DesOk.few {m : Mk} {t ds : List (List Int)} (h : DesOk m t ds) : ds.length ≤ 10 ∧ ∀ k, k < ds.length → (getl ds k).length ≤ 6 ∧ getl ds k ≠ [] := by
 have hf := h.part.fits
 have hr := hf.rows
 have hm := Mk.ok_iff.1 hf.ok
 refine ⟨by have := h.full; omega, fun k hk => ?_⟩
 have := hf.lens k hk
 exact ⟨by omega, fun e => by rw [e] at this; simp at this; omega⟩
set_option maxRecDepth 100000 in
theorem isOpenPart_b {S S' : Nat → Prop} (m : Mk) (u v : Value) (t cuts : List (List Int)) (n : Nat) (W : World) (r : Bool) (hr : openP n t cuts = r) (hf : Fits m t cuts) (hn : (n : Int) = m.c) (h : V2 S W u t) (hc : V2 S' W v cuts) :
  Calls Tryz.prog 160 #[.agg #[.int .i64 m.c, .int .i64 m.d, .int .i64 m.s, .int .i64 m.e, .int .i64 m.l, u], v] W fun e' w' => e' = .returned (.bool r) ∧ Below W.heap.size W w' := by
 subst hr
 obtain ⟨a, c, rfl, hmx⟩ := h.form
 obtain ⟨a', c', rfl, hmx'⟩ := hc.form
 obtain ⟨W1, hW1, hB01, hz01, HZ01, hc01, hh01⟩ := box_facts W #[.int .i64 m.c, .int .i64 m.d, .int .i64 m.s, .int .i64 m.e, .int .i64 m.l, .slice a t.length c] 33
 have hfa := partFaults_any m _ _ t cuts n W1 hf hn (h.below hB01) (hc.below hB01)
 unfold openP
 obtain ⟨L, hL⟩ : ∃ L, falseL n t cuts = L := ⟨_, rfl⟩
 rw [hL] at hfa ⊢
 have H := Lib.hid (And.intro hfa (And.intro hL hf)); clear hfa hL hf
 go_enter Tryz.func160, Tryz.ntmps160
 go_wp2_with fail
 rw [← hW1]
 refine H.out.1.mono ?_
 rintro e' w2 ⟨v2, rfl, hF, hb2⟩
 obtain ⟨la, lc, rfl, hlm⟩ := hF.v2.form
 clear hc01 hh01 hF
 go_wp2_with fail
 go_ret
 exact ⟨ret_bool (by rw [Bool.eq_iff_iff, beq_iff_eq, decide_eq_true_iff]; omega), hB01.trans (hb2.mono (by omega))⟩
theorem isLimit_b (x : Int) (W : World) (r : Bool) (hr : inB x 0 4000 = r) :
  Calls Tryz.prog 159 #[.int .i64 x] W fun e' w' => e' = .returned (.bool r) ∧ W = w' := by
 have Hr := Lib.hid hr; clear hr
 go_enter Tryz.func159, Tryz.ntmps159
 go_wp2_with (go_at_call 59; refine (within_b _ _ _ _ _ Hr.out).mono ?_; rintro e' w' ⟨rfl, rfl⟩)
 go_ret
 exact ⟨rfl, rfl⟩
set_option maxRecDepth 100000 in
theorem searchCode_any {S S' : Nat → Prop} (m : Mk) (u v : Value) (t cuts : List (List Int)) (limit : Int) (W : World) (h : V2 S W u t) (hc : V2 S' W v cuts) :
  Calls Tryz.prog 103 #[.agg #[.int .i64 m.c, .int .i64 m.d, .int .i64 m.s, .int .i64 m.e, .int .i64 m.l, u], v, .int .i64 limit] W fun e' w' => e' = .returned (.int .i64 (searchC m t cuts limit)) ∧ Below W.heap.size W w' := by
 obtain ⟨a, c, rfl, hmx⟩ := h.form
 obtain ⟨a', c', rfl, hmx'⟩ := hc.form
 obtain ⟨W1, hW1, hB01, hz01, HZ01, hc01, hh01⟩ := box_facts W #[.int .i64 m.c, .int .i64 m.d, .int .i64 m.s, .int .i64 m.e, .int .i64 m.l, .slice a t.length c] 33
 have hV1 : V2 (fun _ => True) W1 (.slice a t.length c) t := (h.below hB01).any
 have hC1 : V2 (fun _ => True) W1 (.slice a' cuts.length c') cuts := (hc.below hB01).any
 by_cases hp : partC m t cuts = 0
 ·have hok : PartOk m t cuts := by obtain ⟨h1, h2, h3⟩ := partC_ok.1 hp; exact ⟨h1, h2, h3⟩
  have hmc := mc_nat hok.fits.ok
  have Hpc := Lib.hid hp
  cases hi : inB limit 0 4000
  ·have hfin : searchC m t cuts limit = 2 := by unfold searchC; rw [if_neg (by rw [hp]; simp), if_pos (fun h => by rw [inB_iff.2 h] at hi; cases hi)]
   rw [hfin]
   have Hi := Lib.hid (And.intro hi hfin); clear hi hfin hp hok hmc
   go_enter Tryz.func103, Tryz.ntmps103
   go_wp2_with fail
   rw [← hW1]
   refine (partCode_any m _ _ t cuts W1 hV1 hC1).mono ?_
   rintro e' w2 ⟨rfl, hb2⟩
   rw [Hpc.out]
   have hz2 := hb2.size
   have hx2 : ∀ o, w2.cell? ⟨W.heap.size, o, none⟩ = (#[.int .i64 m.c, .int .i64 m.d, .int .i64 m.s, .int .i64 m.e, .int .i64 m.l, .slice a t.length c] : Array Value)[o]? := fun o => by rw [(bcell hb2).1 _ _ hz01, hc01]
   clear hc01 hh01
   go_wp2_with (go_at_call 159; refine (isLimit_b _ _ _ Hi.out.1).mono ?_; rintro e' w' ⟨rfl, rfl⟩)
   go_ret
   exact ⟨rfl, hB01.trans (hb2.mono (by omega))⟩
  ·have hlim := inB_iff.1 hi
   obtain ⟨r, hr⟩ : ∃ r, openP m.c.toNat t cuts = r := ⟨_, rfl⟩
   have hfin : searchC m t cuts limit = if r = true then 0 else 5 := by
    unfold searchC
    rw [if_neg (by rw [hp]; simp), if_neg (fun h => h hlim)]
    unfold openP at hr
    cases r
    ·rw [if_pos (of_decide_eq_false hr)]; rfl
    ·rw [if_neg (fun h => h (of_decide_eq_true hr))]; rfl
   rw [hfin]
   have Hi := Lib.hid (And.intro hi (And.intro hr (And.intro hok hmc))); clear hi hfin hp hr hlim hok hmc
   go_enter Tryz.func103, Tryz.ntmps103
   go_wp2_with fail
   rw [← hW1]
   refine (partCode_any m _ _ t cuts W1 hV1 hC1).mono ?_
   rintro e' w2 ⟨rfl, hb2⟩
   rw [Hpc.out]
   have hz2 := hb2.size
   have hx2 : ∀ o, w2.cell? ⟨W.heap.size, o, none⟩ = (#[.int .i64 m.c, .int .i64 m.d, .int .i64 m.s, .int .i64 m.e, .int .i64 m.l, .slice a t.length c] : Array Value)[o]? := fun o => by rw [(bcell hb2).1 _ _ hz01, hc01]
   clear hc01 hh01
   go_wp2_with (go_at_call 159; refine (isLimit_b _ _ _ Hi.out.1).mono ?_; rintro e' w' ⟨rfl, rfl⟩)
   refine (isOpenPart_b m _ _ t cuts m.c.toNat _ r Hi.out.2.1 Hi.out.2.2.1.fits Hi.out.2.2.2 (hV1.below hb2) (hC1.below hb2)).mono ?_
   rintro e' w3 ⟨rfl, hb3⟩
   clear hx2
   cases r
   ·go_wp2_with fail
    go_ret
    exact ⟨rfl, hB01.trans ((hb2.trans (hb3.mono hz2)).mono (by omega))⟩
   ·go_wp2_with fail
    go_ret
    exact ⟨rfl, hB01.trans ((hb2.trans (hb3.mono hz2)).mono (by omega))⟩
 ·have hfin : searchC m t cuts limit = partC m t cuts := by unfold searchC; rw [if_pos hp]
  have e1 : (partC m t cuts != 0) = true := by simp [hp]
  rw [hfin]
  obtain ⟨pc, hpc⟩ : ∃ pc, partC m t cuts = pc := ⟨_, rfl⟩
  rw [hpc] at e1 ⊢
  have Hpc := Lib.hid hpc; clear hpc hp hfin
  go_enter Tryz.func103, Tryz.ntmps103
  go_wp2_with fail
  rw [← hW1]
  refine (partCode_any m _ _ t cuts W1 hV1 hC1).mono ?_
  rintro e' w2 ⟨rfl, hb2⟩
  rw [Hpc.out]
  have hz2 := hb2.size
  have hx2 : ∀ o, w2.cell? ⟨W.heap.size, o, none⟩ = (#[.int .i64 m.c, .int .i64 m.d, .int .i64 m.s, .int .i64 m.e, .int .i64 m.l, .slice a t.length c] : Array Value)[o]? := fun o => by rw [(bcell hb2).1 _ _ hz01, hc01]
  clear hc01 hh01
  clear hx2
  go_wp2_with fail
  go_ret
  exact ⟨rfl, hB01.trans (hb2.mono (by omega))⟩
set_option maxRecDepth 100000 in
theorem opensWith_any {S S' S2 : Nat → Prop} (u v k : Value) (l : List (List Int)) (key cuts : List Int) (W : World) (h : V2 S W u l) (hk : V1 S2 W k key) (hc : V1 S' W v cuts) (hl : cuts.length ≤ l.length) (hkl : cuts.length ≤ key.length) :
  Calls Tryz.prog 217 #[.agg #[u], k, v] W fun e' w' => e' = .returned (.bool (opensWithB l key cuts)) ∧ Below W.heap.size W w' := by
 obtain ⟨a, c, rfl, hmx⟩ := h.form
 obtain ⟨a', c', rfl, hmx'⟩ := hc.form
 obtain ⟨ka, kc, rfl, hkm⟩ := hk.form
 obtain ⟨r, hr⟩ : ∃ r, opensWithB l key cuts = r := ⟨_, rfl⟩
 rw [hr]
 have Hr := Lib.hid hr; clear hr
 obtain ⟨W1, hW1, hB01, hz01, HZ01, hc01, hh01⟩ := box_facts W #[.slice a l.length c] 137
 have hV1 := h.below hB01
 have hC1 := hc.below hB01
 have hK1 := hk.below hB01
 go_enter Tryz.func217, Tryz.ntmps217
 go_wp2_with fail
 rw [← hW1]
 have HW1 := Lib.hid hW1; clear hW1 hh01
 go_loop [7, 8, 11] (fun _ _ i => ∃ j : Nat, j ≤ cuts.length ∧ i = .int .i64 (j : Int) ∧ r = upAll (fun i => decide (geti cuts i = geti key i) || hasI (getl l i) (geti cuts i)) cuts.length j) (fun _ _ i => cuts.length - (intOf i).toNat)
 case atStart => exact ⟨0, Nat.zero_le _, rfl, Hr.out.symm⟩
 case round =>
  obtain ⟨j, hj, rfl, hrem⟩ := hrel
  have Hm := Lib.hid hrem; clear hrem
  by_cases hjj : j < cuts.length
  ·obtain ⟨b1, off1, rfl, _, hc1⟩ := hC1.cell hjj
   have hjk : j < key.length := by omega
   obtain ⟨b3, off3, rfl, _, hc3⟩ := hK1.cell hjk
   obtain ⟨b2, off2, a2, c2, rfl, _, hc2, hr2⟩ := hV1.cell (k := j) (by omega)
   by_cases heq : geti cuts j = geti key j
   ·have e1 : (geti cuts j != geti key j) = false := by simp [heq]
    have HE := Lib.hid heq; clear heq
    go_wp2_with fail
    go_round
    case rel => exact ⟨j + 1, by omega, by go_num, by rw [Hm.out, upAll_step hjj, decide_eq_true HE.out]; rfl⟩
    case measure => simp [intOf]; omega
   ·have e1 : (geti cuts j != geti key j) = true := by simp [heq]
    have HE := Lib.hid heq; clear heq
    cases hg : hasI (getl l j) (geti cuts j)
    ·have HG := Lib.hid hg; clear hg
     go_wp2_with (go_at_call 186; refine (slContains_b _ _ _ _ _ HG.out hr2).mono ?_; rintro e' w' ⟨rfl, rfl⟩)
     go_ret
     exact ⟨ret_bool (by rw [Hm.out, upAll_step hjj, HG.out, decide_eq_false HE.out]; rfl), hB01⟩
    ·have HG := Lib.hid hg; clear hg
     go_wp2_with (go_at_call 186; refine (slContains_b _ _ _ _ _ HG.out hr2).mono ?_; rintro e' w' ⟨rfl, rfl⟩)
     go_round
     case rel => exact ⟨j + 1, by omega, by go_num, by rw [Hm.out, upAll_step hjj, HG.out, decide_eq_false HE.out]; rfl⟩
     case measure => simp [intOf]; omega
  ·obtain rfl : j = cuts.length := by omega
   go_wp2_with fail
   go_ret
   exact ⟨ret_bool (by rw [Hm.out, upAll_end]), hB01⟩
theorem opensWith_b {S S' S2 : Nat → Prop} (u v k : Value) (l : List (List Int)) (key cuts : List Int) (W : World) (r : Bool) (hr : opensWithB l key cuts = r) (h : V2 S W u l) (hk : V1 S2 W k key) (hc : V1 S' W v cuts) (hl : cuts.length ≤ l.length) (hkl : cuts.length ≤ key.length) :
  Calls Tryz.prog 217 #[.agg #[u], k, v] W fun e' w' => e' = .returned (.bool r) ∧ Below W.heap.size W w' := by subst hr; exact opensWith_any u v k l key cuts W h hk hc hl hkl
def stayQ (t cuts : List (List Int)) (locks : List (List (List Int))) (key : List Int) (d k : Nat) : Bool := !(decide (geti (getl t cuts.length) d = 1) && decide (geti (getl t k) d = 0) && opensWithB (getll locks d) key (getl cuts k))
theorem stayD_eq (t cuts : List (List Int)) (locks : List (List (List Int))) (key : List Int) (d : Nat) : stayD t cuts locks key d = (!(decide (geti (getl t cuts.length) d = 0) && opensB (getll locks d) key) && upAll (stayQ t cuts locks key d) cuts.length 0) := rfl
set_option maxRecDepth 100000 in
set_option maxHeartbeats 2000000 in
theorem stay1_any {S S1 S2 S3 : Nat → Prop} (m : Mk) (t cuts : List (List Int)) (locks : List (List (List Int))) (key : List Int) (tv lv cv kv rv : Value) (LB RB CB SB : Nat) (W : World) (n : Nat)
  (hl : locks.length = (getl t 0).length) (hln : ∀ d, d < locks.length → (getll locks d).length = n) (hkn : key.length = n) (hcn : ∀ k, k < cuts.length → (getl cuts k).length = n) (hct : cuts.length < t.length) (hcols : ∀ k, k < t.length → (getl t k).length = (getl t 0).length)
  (hbits : ∀ d, d < (getl t 0).length → geti (getl t cuts.length) d = 0 ∨ geti (getl t cuts.length) d = 1)
  (hL : W.cell? ⟨LB, 0, none⟩ = some lv) (hR : W.cell? ⟨RB, 0, none⟩ = some rv) (hC : W.cell? ⟨CB, 0, none⟩ = some cv) (hS : ∀ o, W.cell? ⟨SB, o, none⟩ = (#[.int .i64 m.c, .int .i64 m.d, .int .i64 m.s, .int .i64 m.e, .int .i64 m.l, tv] : Array Value)[o]?) (hSl : SB < W.heap.size)
  (hlv : V3 S W lv locks) (hrv : V1 S1 W rv (getl t cuts.length)) (hcv : V2 S2 W cv cuts) (htv : V2 S3 W tv t) (hkv : V1 S W kv key) :
  Calls Tryz.prog 216 #[kv, .pointer (some ⟨LB, 0, none⟩), .pointer (some ⟨RB, 0, none⟩), .pointer (some ⟨CB, 0, none⟩), .pointer (some ⟨SB, 0, none⟩)] W fun e' w' => e' = .returned (.bool (staysB t cuts locks key)) ∧ Below W.heap.size W w' := by
 obtain ⟨la, lc, rfl, hlm⟩ := hlv.form
 obtain ⟨ra, rc, rfl, hrm⟩ := hrv.form
 obtain ⟨ca, cc, rfl, hcm⟩ := hcv.form
 obtain ⟨ta, tc, rfl, htm⟩ := htv.form
 obtain ⟨ka, kc, rfl, hkm⟩ := hkv.form
 have hrl : (getl t cuts.length).length = (getl t 0).length := hcols _ hct
 obtain ⟨r, hr⟩ : ∃ r, staysB t cuts locks key = r := ⟨_, rfl⟩
 rw [hr]
 have Hr := Lib.hid hr; clear hr
 have hV := Lib.hid (And.intro hlv (And.intro hrv (And.intro hcv (And.intro htv hkv)))); clear hlv hrv hcv htv hkv
 have Hc := Lib.hid (And.intro hl (And.intro hln (And.intro hkn (And.intro hcn (And.intro hcols (And.intro hbits hrl)))))); clear hl hln hkn hcn hcols hbits hrl
 go_enter Tryz.func216, Tryz.ntmps216
 go_wp2_with fail
 go_loopw [7, 8, 9, 10, 13, 30] (fun _ _ _ _ i _ wr => ∃ d : Nat, d ≤ locks.length ∧ i = .int .i64 (d : Int) ∧ r = upAll (stayD t cuts locks key) locks.length d ∧ Below W.heap.size W wr) (fun _ _ _ _ i _ _ => locks.length - (intOf i).toNat)
 case atStart => exact ⟨0, Nat.zero_le _, rfl, by rw [← Hr.out, Hc.out.1]; rfl, Below.refl _ _⟩
 case round =>
  obtain ⟨d, hd, rfl, hrem, hB⟩ := hrel
  have hzr := hB.size
  have Hm := Lib.hid hrem; clear hrem
  by_cases hdd : d < locks.length
  ·obtain ⟨b2, off2, a2, c2, rfl, _, hc2, hr2⟩ := (hV.out.1.below hB).cell hdd
   have hdr : d < (getl t cuts.length).length := by rw [Hc.out.2.2.2.2.2.2, ← Hc.out.1]; exact hdd
   obtain ⟨b3, off3, rfl, _, hc3⟩ := (hV.out.2.1.below hB).cell hdr
   have hR1 := cell_keep hR (hB.block _ (lt_of_cell hR))
   have hC1 := cell_keep hC (hB.block _ (lt_of_cell hC))
   have hbx : Below wr.heap.size wr (wr.alloc (.cells #[.slice a2 (getll locks d).length c2] 137)) := (Below.refl _ _).alloc (Nat.le_refl _) _
   have hkl : key.length ≤ (getll locks d).length := by rw [Hc.out.2.1 d hdd, Hc.out.2.2.1]; exact Nat.le_refl _
   have hRx := cell_keep hR1 (hbx.block _ (lt_of_cell hR1))
   have hCx := cell_keep hC1 (hbx.block _ (lt_of_cell hC1))
   have hc3x := cell_keep hc3 (hbx.block _ (lt_of_cell hc3))
   by_cases h0 : geti (getl t cuts.length) d = 0
   ·have e0 : (geti (getl t cuts.length) d == 0) = true := by rw [beq_iff_eq]; exact h0
    cases ho : opensB (getll locks d) key
    ·have e1 : (geti (getl t cuts.length) d == 1) = false := by rw [beq_eq_false_iff_ne, h0]; decide
     have hA : (!(decide (geti (getl t cuts.length) d = 0) && opensB (getll locks d) key)) = true := by rw [ho, Bool.and_false]; rfl
     have hrow : decide (geti (getl t cuts.length) d = 1) = false := by rw [h0]; rfl
     have Hrow := Lib.hid hrow
     have HA := Lib.hid (And.intro hA ho); clear hA ho hrow h0
     go_wp2_with fail
     refine (opens_b _ _ (getll locks d) key _ _ HA.out.2 (hr2.below hbx) ((hV.out.2.2.2.2.below hB).below hbx) hkl).mono ?_
     rintro e' w5 ⟨rfl, hb5⟩
     have hbw := hbx.trans (hb5.mono hbx.size)
     have hCw := cell_keep hC1 (hbw.block _ (lt_of_cell hC1))
     clear hRx hCx hc3x hbx hb5
     go_wp2_with fail
     go_loopw [9, 10, 30] (fun _ _ i wn => ∃ k : Nat, k ≤ cuts.length ∧ i = .int .i64 (k : Int) ∧ upAll (stayQ t cuts locks key d) cuts.length 0 = upAll (stayQ t cuts locks key d) cuts.length k ∧ Below (w5).heap.size (w5) wn) (fun _ _ i _ => cuts.length - (intOf i).toNat)
     case atStart => exact ⟨0, Nat.zero_le _, rfl, rfl, Below.refl _ _⟩
     case round =>
      obtain ⟨k, hk, rfl, hqe, hBn⟩ := hrel
      have hBr := hbw.trans (hBn.mono hbw.size)
      have hBW := hB.trans (hBr.mono hzr)
      have hzn := hBr.size
      have Hq := Lib.hid hqe; clear hqe
      have hRn := cell_keep hR1 (hBr.block _ (lt_of_cell hR1))
      have hc3n := cell_keep hc3 (hBr.block _ (lt_of_cell hc3))
      by_cases hkk : k < cuts.length
      ·obtain ⟨b5, off5, a5, c5, rfl, _, hc5, hr5⟩ := (hV.out.2.2.1.below hBW).cell hkk
       have hq : stayQ t cuts locks key d k = true := by unfold stayQ; rw [Hrow.out]; rfl
       have Hqk := Lib.hid hq; clear hq
       go_wp2_with fail
       go_roundw
       case rel => exact ⟨k + 1, by omega, by go_num, by rw [Hq.out, upAll_step hkk, Hqk.out]; rfl, hBn⟩
       case measure => simp [intOf]; omega
      ·obtain rfl : k = cuts.length := by omega
       have hst : stayD t cuts locks key d = true := by rw [stayD_eq, Hq.out, upAll_end, Bool.and_true]; exact HA.out.1
       have Hst := Lib.hid hst; clear hst
       go_wp2_with fail
       go_roundw
       case rel => exact ⟨d + 1, by omega, by go_num, by rw [Hm.out, upAll_step hdd, Hst.out]; rfl, hBW⟩
       case measure => simp [intOf]; omega
    ·have hst : stayD t cuts locks key d = false := by rw [stayD_eq, decide_eq_true h0, ho]; rfl
     have Hst := Lib.hid (And.intro hst (And.intro ho h0)); clear hst ho h0
     go_wp2_with fail
     refine (opens_b _ _ (getll locks d) key _ _ Hst.out.2.1 (hr2.below hbx) ((hV.out.2.2.2.2.below hB).below hbx) hkl).mono ?_
     rintro e' w5 ⟨rfl, hb5⟩
     have hB5 := hB.trans ((hbx.trans (hb5.mono hbx.size)).mono hzr)
     go_wp2_with fail
     go_ret
     exact ⟨ret_bool (by rw [Hm.out, upAll_step hdd, Hst.out.1]; rfl), hB5⟩
   ·have h1 : geti (getl t cuts.length) d = 1 := by
     rcases Hc.out.2.2.2.2.2.1 d (by rw [← Hc.out.1]; exact hdd) with h | h
     ·exact absurd h h0
     ·exact h
    have e0 : (geti (getl t cuts.length) d == 0) = false := by rw [beq_eq_false_iff_ne]; exact h0
    have e1 : (geti (getl t cuts.length) d == 1) = true := by rw [beq_iff_eq]; exact h1
    have hA : (!(decide (geti (getl t cuts.length) d = 0) && opensB (getll locks d) key)) = true := by rw [decide_eq_false h0]; rfl
    have HA := Lib.hid hA; clear hA
    have hLx : (wr.alloc (.cells #[.slice a2 (getll locks d).length c2] 137)).cell? ⟨wr.heap.size, 0, none⟩ = some (.slice a2 (getll locks d).length c2) := by rw [cell_of_block (heap_alloc_self _ _)]; rfl
    obtain ⟨WB, hWB⟩ : ∃ WB, wr.heap.size = WB := ⟨_, rfl⟩
    rw [hWB] at hLx
    have hwB := hbx
    go_wp2_with fail
    go_loopw [9, 10, 30] (fun _ _ i wn => ∃ k : Nat, k ≤ cuts.length ∧ i = .int .i64 (k : Int) ∧ upAll (stayQ t cuts locks key d) cuts.length 0 = upAll (stayQ t cuts locks key d) cuts.length k ∧ Below (wr.alloc (.cells #[.slice a2 (getll locks d).length c2] 137)).heap.size (wr.alloc (.cells #[.slice a2 (getll locks d).length c2] 137)) wn) (fun _ _ i _ => cuts.length - (intOf i).toNat)
    case atStart => exact ⟨0, Nat.zero_le _, rfl, rfl, Below.refl _ _⟩
    case round =>
     obtain ⟨k, hk, rfl, hqe, hBn⟩ := hrel
     have hBr := hwB.trans (hBn.mono hwB.size)
     have hBW := hB.trans (hBr.mono hzr)
     have hzn := hBr.size
     have Hq := Lib.hid hqe; clear hqe
     have hRn := cell_keep hR1 (hBr.block _ (lt_of_cell hR1))
     have hc3n := cell_keep hc3 (hBr.block _ (lt_of_cell hc3))
     by_cases hkk : k < cuts.length
     ·obtain ⟨b5, off5, a5, c5, rfl, _, hc5, hr5⟩ := (hV.out.2.2.1.below hBW).cell hkk
      have hkt : k < t.length := by omega
      obtain ⟨b6, off6, a6, c6, rfl, _, hc6, hr6⟩ := (hV.out.2.2.2.1.below hBW).cell hkt
      have hdk : d < (getl t k).length := by rw [Hc.out.2.2.2.2.1 k hkt, ← Hc.out.1]; exact hdd
      obtain ⟨b7, off7, rfl, _, hc7⟩ := hr6.cell hdk
      have hSn : ∀ o, wr.cell? ⟨SB, o, none⟩ = (#[.int .i64 m.c, .int .i64 m.d, .int .i64 m.s, .int .i64 m.e, .int .i64 m.l, .slice (some ⟨b6, off6, none⟩) t.length tc] : Array Value)[o]? := fun o => by rw [(bcell hBW).1 _ _ hSl, hS]
      have hLn : wr.cell? ⟨WB, 0, none⟩ = some (.slice a2 (getll locks d).length c2) := cell_keep hLx (hBn.block _ (lt_of_cell hLx))
      have hr2n := hr2.below hBr
      have hkvn := hV.out.2.2.2.2.below hBW
      have hcl : (getl cuts k).length ≤ (getll locks d).length := by rw [Hc.out.2.1 d hdd, Hc.out.2.2.2.1 k hkk]; exact Nat.le_refl _
      have hck : (getl cuts k).length ≤ key.length := by rw [Hc.out.2.2.1, Hc.out.2.2.2.1 k hkk]; exact Nat.le_refl _
      by_cases ha : geti (getl t k) d = 0
      ·have e2 : (geti (getl t k) d == 0) = true := by rw [beq_iff_eq]; exact ha
       cases how : opensWithB (getll locks d) key (getl cuts k)
       ·have hq : stayQ t cuts locks key d k = true := by unfold stayQ; rw [how, Bool.and_false]; rfl
        have Hqk := Lib.hid (And.intro hq how); clear hq how
        go_wp2_with fail
        refine (opensWith_b _ _ _ (getll locks d) key (getl cuts k) _ _ Hqk.out.2 hr2n hkvn hr5 hcl hck).mono ?_
        rintro e' w8 ⟨rfl, hb8⟩
        have HB8 := Lib.hid (hBn.trans (hb8.mono hBn.size))
        go_wp2_with fail
        go_roundw
        case rel => exact ⟨k + 1, by omega, by go_num, by rw [Hq.out, upAll_step hkk, Hqk.out.1]; rfl, HB8.out⟩
        case measure => simp [intOf]; omega
       ·have hq : stayQ t cuts locks key d k = false := by unfold stayQ; rw [how, h1, ha]; rfl
        have Hqk := Lib.hid (And.intro hq how); clear hq how
        go_wp2_with fail
        refine (opensWith_b _ _ _ (getll locks d) key (getl cuts k) _ _ Hqk.out.2 hr2n hkvn hr5 hcl hck).mono ?_
        rintro e' w8 ⟨rfl, hb8⟩
        have HB8 := Lib.hid (hBW.trans (hb8.mono hBW.size))
        go_wp2_with fail
        go_ret
        exact ⟨ret_bool (by rw [Hm.out, upAll_step hdd, stayD_eq, Hq.out, upAll_step hkk, Hqk.out.1]; simp), HB8.out⟩
      ·have e2 : (geti (getl t k) d == 0) = false := by rw [beq_eq_false_iff_ne]; exact ha
       have hq : stayQ t cuts locks key d k = true := by unfold stayQ; rw [decide_eq_false ha, Bool.and_false, Bool.false_and]; rfl
       have Hqk := Lib.hid hq; clear hq
       go_wp2_with fail
       go_roundw
       case rel => exact ⟨k + 1, by omega, by go_num, by rw [Hq.out, upAll_step hkk, Hqk.out]; rfl, hBn⟩
       case measure => simp [intOf]; omega
     ·obtain rfl : k = cuts.length := by omega
      have hst : stayD t cuts locks key d = true := by rw [stayD_eq, Hq.out, upAll_end, Bool.and_true]; exact HA.out
      have Hst := Lib.hid hst; clear hst
      go_wp2_with fail
      go_roundw
      case rel => exact ⟨d + 1, by omega, by go_num, by rw [Hm.out, upAll_step hdd, Hst.out]; rfl, hBW⟩
      case measure => simp [intOf]; omega
  ·obtain rfl : d = locks.length := by omega
   go_wp2_with fail
   go_ret
   exact ⟨ret_bool (by rw [Hm.out, upAll_end]), hB⟩
/-- What the function that staysOpen returns stands on. -/
def StayAt (S : Nat → Prop) (m : Mk) (t cuts : List (List Int)) (locks : List (List (List Int))) (LB RB CB SB : Nat) (w : World) : Prop :=
 ∃ lv rv cv tv, w.cell? ⟨LB, 0, none⟩ = some lv ∧ w.cell? ⟨RB, 0, none⟩ = some rv ∧ w.cell? ⟨CB, 0, none⟩ = some cv ∧ (∀ o, w.cell? ⟨SB, o, none⟩ = (#[.int .i64 m.c, .int .i64 m.d, .int .i64 m.s, .int .i64 m.e, .int .i64 m.l, tv] : Array Value)[o]?) ∧ SB < w.heap.size ∧
   S LB ∧ S RB ∧ S CB ∧ S SB ∧ V3 S w lv locks ∧ V1 S w rv (getl t cuts.length) ∧ V2 S w cv cuts ∧ V2 S w tv t
theorem StayAt.keep {S : Nat → Prop} {m : Mk} {t cuts : List (List Int)} {locks : List (List (List Int))} {LB RB CB SB : Nat} {w w' : World} (h : StayAt S m t cuts locks LB RB CB SB w) (hz : w.heap.size ≤ w'.heap.size) (hk : Keep S w w') : StayAt S m t cuts locks LB RB CB SB w' := by
 obtain ⟨lv, rv, cv, tv, h1, h2, h3, h4, h5, s1, s2, s3, s4, h6, h7, h8, h9⟩ := h
 refine ⟨lv, rv, cv, tv, cell_keep h1 (hk _ s1 (lt_of_cell h1)), cell_keep h2 (hk _ s2 (lt_of_cell h2)), cell_keep h3 (hk _ s3 (lt_of_cell h3)), fun o => ?_, by omega, s1, s2, s3, s4, h6.mono (fun _ h _ => h) hk, h7.mono (fun _ h _ => h) hk, h8.mono (fun _ h _ => h) hk, h9.mono (fun _ h _ => h) hk⟩
 rw [← h4]
 exact World.cell?_of_block (w := w) (a := ⟨SB, o, none⟩) (hk _ s4 h5)
def StayPost (S : Nat → Prop) (m : Mk) (t cuts : List (List Int)) (locks : List (List (List Int))) (W : World) (e : Ending) (w' : World) : Prop :=
 ∃ LB RB CB SB, e = .returned (.func (.func 216) #[] #[.pointer (some ⟨LB, 0, none⟩), .pointer (some ⟨RB, 0, none⟩), .pointer (some ⟨CB, 0, none⟩), .pointer (some ⟨SB, 0, none⟩)]) ∧ StayAt S m t cuts locks LB RB CB SB w' ∧ Below W.heap.size W w'
end Go.Proofs.YtmjplkbmhdkggaaGreat
