/- The program's visit of all outsiders with the doors that they open. No conditions. -/
import Derived.Test.YtbckginfipeibaaGreatMNext
import Derived.Test.YtbckginfipeibaaGreatSpare
namespace Go.Proofs.YtbckginfipeibaaGreat
open Go.RowKit
set_option linter.unusedVariables false
set_option linter.unusedSimpArgs false

/-- What is done at a key: nothing at one of the cuts. -/
def outStep {σ : Type} (step : σ → List Int → List Int → σ × Bool) (cuts : List (List Int)) (locks : List (List (List Int))) (s : σ) (key : List Int) : σ × Bool :=
  if hasL cuts key = true then (s, true) else step s key (doorsOf locks key)
/-- What a visit of outsiders does to a state, and to the memory that bears it: F are the blocks that it may write. -/
structure VisD {σ : Type} (C : Nat) (w0 : World) (F0 : Nat → Prop) (f : FuncId) (caps : Array Value) (step : σ → List Int → List Int → σ × Bool) (s0 : σ) (L : List (List Int)) (cuts : List (List Int)) (locks : List (List (List Int))) (Inv : σ → (Nat → Prop) → World → Prop) : Prop where
  enters : Enters f
  keep : ∀ s F w w', Inv s F w → w.heap.size ≤ w'.heap.size → (∀ b, F b → w'.heap[b]? = w.heap[b]?) → Inv s F w'
  lt : ∀ s F w, Inv s F w → ∀ b, F b → b < w.heap.size
  call : ∀ (s : σ) (F S S2 : Nat → Prop) (w : World) (v dv : Value) (key : List Int) (done rest : List (List Int)), L = done ++ key :: rest → runL (outStep step cuts locks) s0 done = (s, true) → Inv s F w → Chg F0 w0 w → (∀ b, F b → F0 b ∨ w0.heap.size ≤ b) →
    V1 S w v key → (∀ b, S b → ¬ F b) → V1 S2 w dv (doorsOf locks key) → (∀ b, S2 b → ¬ F b) → key.length = C →
    Calls Tryz.prog f (#[v, dv] ++ caps) w fun e w' => ∃ F', e = .returned (.bool (step s key (doorsOf locks key)).2) ∧ Inv (step s key (doorsOf locks key)).1 F' w' ∧ Chg F w w' ∧ ∀ b, F' b → F b ∨ w.heap.size ≤ b

theorem cast_act {Q : Exit → Act → World → Prop} {e : Exit} {w : World} {a a' : Act} (h : a = a') (hq : Q e a' w) : Q e a w := h ▸ hq
theorem c3_below {b1 b2 b3 : Nat} {v1 v2 v3 : Value} {w w' : World} (h : w.cell? ⟨b1, 0, none⟩ = some v1 ∧ w.cell? ⟨b2, 0, none⟩ = some v2 ∧ w.cell? ⟨b3, 0, none⟩ = some v3) (hb : Below w.heap.size w w') :
    w'.cell? ⟨b1, 0, none⟩ = some v1 ∧ w'.cell? ⟨b2, 0, none⟩ = some v2 ∧ w'.cell? ⟨b3, 0, none⟩ = some v3 :=
  ⟨cell_keep h.1 (hb.block _ (lt_of_cell h.1)), cell_keep h.2.1 (hb.block _ (lt_of_cell h.2.1)), cell_keep h.2.2 (hb.block _ (lt_of_cell h.2.2))⟩
theorem c3_chg {b1 b2 b3 : Nat} {v1 v2 v3 : Value} {w w' : World} {F : Nat → Prop} (h : w.cell? ⟨b1, 0, none⟩ = some v1 ∧ w.cell? ⟨b2, 0, none⟩ = some v2 ∧ w.cell? ⟨b3, 0, none⟩ = some v3) (hb : Chg F w w') (hn : ¬ F b1 ∧ ¬ F b2 ∧ ¬ F b3) :
    w'.cell? ⟨b1, 0, none⟩ = some v1 ∧ w'.cell? ⟨b2, 0, none⟩ = some v2 ∧ w'.cell? ⟨b3, 0, none⟩ = some v3 :=
  ⟨cell_keep h.1 (hb.block _ (lt_of_cell h.1) hn.1), cell_keep h.2.1 (hb.block _ (lt_of_cell h.2.1) hn.2.1), cell_keep h.2.2 (hb.block _ (lt_of_cell h.2.2) hn.2.2)⟩

section
variable {σ : Type} {m : Mk} {W0 : World} {F0 : Nat → Prop} {f : FuncId} {caps : Array Value} {step : σ → List Int → List Int → σ × Bool} {s0 : σ} {L : List (List Int)} {cuts : List (List Int)} {locks : List (List (List Int))} {Inv : σ → (Nat → Prop) → World → Prop}
theorem enters_out : Enters 48 := fun args w => by kernel_rfl
set_option maxRecDepth 100000 in
set_option maxHeartbeats 1000000 in
theorem out_call (V : VisD m.c.toNat W0 F0 f caps step s0 L cuts locks Inv) (bc bv bl : Nat) (cv lv : Value) (s : σ) (F S : Nat → Prop) (w : World) (v : Value) (key : List Int) (done rest : List (List Int))
    (hL : L = done ++ key :: rest) (hs : runL (outStep step cuts locks) s0 done = (s, true)) (hI : Inv s F w) (hc0 : Chg F0 W0 w) (hF : ∀ b, F b → F0 b ∨ W0.heap.size ≤ b)
    (hV : V1 S w v key) (hS : ∀ b, S b → ¬ F b) (hkl : key.length = m.c.toNat)
    (h1 : w.cell? ⟨bc, 0, none⟩ = some cv) (h2 : w.cell? ⟨bv, 0, none⟩ = some (.func (.func f) #[] caps)) (h3 : w.cell? ⟨bl, 0, none⟩ = some lv) (hn : ¬ F bc ∧ ¬ F bv ∧ ¬ F bl)
    (hcv : V2 (fun b => ¬ F b) w cv cuts) (hlv : V3 (fun b => ¬ F b) w lv locks) (hll : locks.length ≤ 1000) (hlen : ∀ k, k < locks.length → (getll locks k).length = m.c.toNat) :
    Calls Tryz.prog 48 #[v, .pointer (some ⟨bc, 0, none⟩), .pointer (some ⟨bv, 0, none⟩), .pointer (some ⟨bl, 0, none⟩)] w
      fun e w' => ∃ F', e = .returned (.bool (outStep step cuts locks s key).2) ∧ Inv (outStep step cuts locks s key).1 F' w' ∧ Chg F w w' ∧ ∀ b, F' b → F b ∨ w.heap.size ≤ b := by
  obtain ⟨ka, kc, rfl, hkm⟩ := hV.form
  obtain ⟨ca, cc, rfl, hcm⟩ := hcv.form
  obtain ⟨la, lc, rfl, hlm⟩ := hlv.form
  have hlenk : ∀ k, k < locks.length → key.length ≤ (getll locks k).length := fun k hk => by rw [hlen k hk, hkl]; exact Nat.le_refl _
  have Hlen := Lib.hid hlenk; clear hlen hlenk
  have Hkl := Lib.hid hkl; clear hkl
  have hFlt := V.lt _ _ _ hI
  have hdr : Below w.heap.size w w.drew := (Below.refl _ _).drew
  have H0 := Lib.hid (And.intro hL (And.intro hs (And.intro hc0 hF))); clear hL hs hc0 hF
  have HI := Lib.hid hI; clear hI
  have HF := Lib.hid (And.intro hFlt hS); clear hFlt hS
  have hen := V.enters
  unfold Enters at hen
  have HV := Lib.hid V; clear V
  have hkc := hV.below hdr
  have Hn := Lib.hid hn; clear hn
  cases hh : hasL cuts key
  · have hst : outStep step cuts locks s key = step s key (doorsOf locks key) := by unfold outStep; rw [if_neg (by rw [hh]; decide)]
    rw [hst]
    have Hh := Lib.hid (And.intro hh hst); clear hh hst
    go_enter Tryz.func48, Tryz.ntmps48
    go_wp2_with fail
    go_region_held3 (fun w' => w'.cell? ⟨bc, 0, none⟩ = some (.slice ca cuts.length cc) ∧ w'.cell? ⟨bv, 0, none⟩ = some (.func (.func f) #[] caps) ∧ w'.cell? ⟨bl, 0, none⟩ = some (.slice la locks.length lc))
      (first | exact ⟨h1, h2, h3⟩ | exact c3_below (by assumption) (by assumption) | exact c3_chg (by assumption) (by assumption) Hn.out)
      (first | (go_at_call 49; refine (contains_b _ _ cuts key _ _ Hh.out.1 (hcv.below hdr) hkc).mono ?_; rintro e' w1 ⟨rfl, hb1⟩) | (go_at_call 50; refine (doorsOpened_any _ _ locks key _ ((hlv.below hdr).below hb1) (hkc.below hb1) hll Hlen.out).mono ?_; rintro e' w2 ⟨v2, rfl, hF2, hb2⟩; have hb02 : Below w.heap.size w w2 := (hdr.trans (hb1.mono hdr.size)).trans (hb2.mono (by have := hb1.size; have := hdr.size; omega)); have hI2 := HV.out.keep _ _ _ _ HI.out hb02.size (fun b hb => hb02.block b (HF.out.1 b hb))) | (refine (HV.out.call s F _ _ _ _ _ key done rest H0.out.1 H0.out.2.1 hI2 (H0.out.2.2.1.then_below hb02) H0.out.2.2.2 ((hkc.below hb1).below hb2) HF.out.2 hF2.v1 (fun b hb hf => by have h6 : w1.heap.size ≤ b := hb; have := HF.out.1 b hf; have := hb1.size; have := hdr.size; omega) Hkl.out).mono ?_; rintro e' w3 ⟨F', rfl, hinv, hchg, hsub⟩))
    have Hfin := Lib.hid (And.intro hinv (And.intro ((Chg.of_below (F := F) hb02).trans hchg (fun i hi => .inl hi)) (fun b hb => by rcases hsub b hb with h | h; exact .inl h; right; have := hb02.size; omega : ∀ b, F' b → F b ∨ w.heap.size ≤ b)))
    clear hinv hchg hsub
    go_wp2_with fail
    go_ret
    exact ⟨F', rfl, Hfin.out⟩
  · have hst : outStep step cuts locks s key = (s, true) := by unfold outStep; rw [if_pos hh]
    rw [hst]
    have Hh := Lib.hid (And.intro hh hst); clear hh hst
    go_enter Tryz.func48, Tryz.ntmps48
    go_wp2_with fail
    refine wp_region_noPanic ?_
    refine wp_region_held_drew (S := fun w' => w'.cell? ⟨bc, 0, none⟩ = some (.slice ca cuts.length cc)) (by kernel_rfl) h1 (fun hHeld => ?_)
    (refine wpAnyH_take (i := 0) (v := .slice ca cuts.length cc) rfl (by kernel_rfl) (by kernel_rfl) (by kernel_rfl) (fun _ _ _ h => h) (Or.inl ⟨by kernel_rfl, fun w hSw => by (try dsimp only at hSw); go_split_ands; go_simp⟩) (by assumption) ?_; simp only [Act.put, List.setIfInBounds_toArray, List.set_cons_zero, List.set_cons_succ])
    (refine wpAnyH_take (i := 1) (v := .slice ka key.length kc) rfl (by kernel_rfl) (by kernel_rfl) (by kernel_rfl) (fun _ _ _ h => h) (Or.inl ⟨by kernel_rfl, fun w hSw => by (try dsimp only at hSw); go_split_ands; go_simp⟩) (by assumption) ?_; simp only [Act.put, List.setIfInBounds_toArray, List.set_cons_zero, List.set_cons_succ])
    (refine wpAnyH_ready (rs := [2]) (by kernel_rfl) (by simp) (AllReadyH.cons rfl (fun K hK => ?_) AllReadyH.nil); go_simp)
    go_at_call 49
    refine (contains_b _ _ cuts key _ _ Hh.out.1 (hcv.below hdr) hkc).mono ?_
    rintro e' w1 ⟨rfl, hb1⟩
    have hc1 : w1.cell? ⟨bc, 0, none⟩ = some (.slice ca cuts.length cc) := cell_keep h1 (by rw [hb1.block _ (lt_of_cell h1)]; rfl)
    dsimp only
    (refine hK.out _ _ hc1 (fun hHeld => ?_); clear hK K; (try simp only [Act.put, List.setIfInBounds_toArray, List.set_cons_zero, List.set_cons_succ]))
    (refine wpAnyH_take (i := 3) (v := .bool true) rfl (by kernel_rfl) (by kernel_rfl) (by kernel_rfl) (fun _ _ _ h => h) (Or.inl ⟨by kernel_rfl, fun w hSw => by (try dsimp only at hSw); go_split_ands; go_simp⟩) (by assumption) ?_; simp only [Act.put, List.setIfInBounds_toArray, List.set_cons_zero, List.set_cons_succ])
    (refine wpAnyH_take (i := 4) (v := undef) rfl (by kernel_rfl) (by kernel_rfl) (by kernel_rfl) (fun _ _ _ h => h) (Or.inr ⟨by kernel_rfl, rfl⟩) (by assumption) ?_; simp only [Act.put, List.setIfInBounds_toArray, List.set_cons_zero, List.set_cons_succ])
    (refine wpAnyH_take (i := 5) (v := undef) rfl (by kernel_rfl) (by kernel_rfl) (by kernel_rfl) (fun _ _ _ h => h) (Or.inr ⟨by kernel_rfl, rfl⟩) (by assumption) ?_; simp only [Act.put, List.setIfInBounds_toArray, List.set_cons_zero, List.set_cons_succ])
    (refine wpAnyH_take (i := 6) (v := undef) rfl (by kernel_rfl) (by kernel_rfl) (by kernel_rfl) (fun _ _ _ h => h) (Or.inr ⟨by kernel_rfl, rfl⟩) (by assumption) ?_; simp only [Act.put, List.setIfInBounds_toArray, List.set_cons_zero, List.set_cons_succ])
    (refine wpAnyH_take (i := 7) (v := undef) rfl (by kernel_rfl) (by kernel_rfl) (by kernel_rfl) (fun _ _ _ h => h) (Or.inr ⟨by kernel_rfl, rfl⟩) (by assumption) ?_; simp only [Act.put, List.setIfInBounds_toArray, List.set_cons_zero, List.set_cons_succ])
    (refine wpAnyH_take (i := 8) (v := undef) rfl (by kernel_rfl) (by kernel_rfl) (by kernel_rfl) (fun _ _ _ h => h) (Or.inr ⟨by kernel_rfl, rfl⟩) (by assumption) ?_; simp only [Act.put, List.setIfInBounds_toArray, List.set_cons_zero, List.set_cons_succ])
    (refine wpAnyH_take (i := 9) (v := undef) rfl (by kernel_rfl) (by kernel_rfl) (by kernel_rfl) (fun _ _ _ h => h) (Or.inr ⟨by kernel_rfl, rfl⟩) (by assumption) ?_; simp only [Act.put, List.setIfInBounds_toArray, List.set_cons_zero, List.set_cons_succ])
    (refine wpAnyH_take (i := 10) (v := .bool true) rfl (by kernel_rfl) (by kernel_rfl) (by kernel_rfl) (fun _ _ _ h => h) (Or.inl ⟨by kernel_rfl, fun w hSw => by (try dsimp only at hSw); go_split_ands; go_simp⟩) (by assumption) ?_; simp only [Act.put, List.setIfInBounds_toArray, List.set_cons_zero, List.set_cons_succ])
    (refine wpAnyH_take (i := 11) (v := .bool true) rfl (by kernel_rfl) (by kernel_rfl) (by kernel_rfl) (fun _ _ _ h => h) (Or.inl ⟨by kernel_rfl, fun w hSw => by (try dsimp only at hSw); go_split_ands; go_simp⟩) (by assumption) ?_; simp only [Act.put, List.setIfInBounds_toArray, List.set_cons_zero, List.set_cons_succ])
    refine wpAnyH_done (by kernel_rfl) (NoPanic.normal ?_) _
    refine cast_act (a' := ⟨#[.slice ka key.length kc, .pointer (some ⟨bc, 0, none⟩), .pointer (some ⟨bv, 0, none⟩), .pointer (some ⟨bl, 0, none⟩), undef, .bool true, .slice ca cuts.length cc, .slice ka key.length kc, .bool true, .bool true, undef, undef, undef, undef, undef, undef, .bool true], []⟩) (by kernel_rfl) ?_
    have hb01 : Below w.heap.size w w1 := hdr.trans (hb1.mono hdr.size)
    have Hb := Lib.hid hb01
    go_wp2_with fail
    go_ret
    exact ⟨F, rfl, HV.out.keep _ _ _ _ HI.out Hb.out.size (fun b hb => Hb.out.block b (HF.out.1 b hb)), Chg.of_below Hb.out, fun b hb => .inl hb⟩

set_option maxRecDepth 100000 in
set_option maxHeartbeats 1000000 in
theorem eachOutsider_any {t : List (List Int)} {n : Nat} (u v : Value) (hf : Fits m t cuts) (hn : (n : Int) = m.c) (W : World) (V : VisD m.c.toNat W F0 f caps step s0 (keysOf m) cuts (locksTo n t cuts (getl t 0).length) Inv) (hI : Inv s0 F0 W)
    (h : V2 (fun b => ¬ F0 b) W u t) (hc : V2 (fun b => ¬ F0 b) W v cuts) :
    Calls Tryz.prog 27 #[.agg #[.int .i64 m.c, .int .i64 m.d, .int .i64 m.s, .int .i64 m.e, .int .i64 m.l, u], v, .func (.func f) #[] caps] W
      (fun e w' => ∃ F', Inv (runL (outStep step cuts (locksTo n t cuts (getl t 0).length)) s0 (keysOf m)).1 F' w' ∧ Chg F0 W w' ∧ (∀ b, F' b → F0 b ∨ W.heap.size ≤ b) ∧ e = .returned undef) := by
  obtain ⟨a, c, rfl, hmx⟩ := h.form
  obtain ⟨a', c', rfl, hmx'⟩ := hc.form
  have hdoors := hf.doors
  have hFlt := V.lt _ _ _ hI
  have hok := hf.ok
  obtain ⟨locks, hlocks⟩ : ∃ x, x = locksTo n t cuts (getl t 0).length := ⟨_, rfl⟩
  have hll : locks.length ≤ 1000 := by rw [hlocks, locksTo_len]; omega
  have hnn : n = m.c.toNat := by omega
  have hlk : ∀ k, k < locks.length → (getll locks k).length = m.c.toNat := fun k hk => by rw [hlocks]; rw [hlocks, locksTo_len] at hk; rw [lock_len hk, hnn]
  rw [← hlocks] at V ⊢
  have Hlocks := Lib.hid hlocks; clear hlocks
  have Hlk := Lib.hid (And.intro hlk hnn); clear hlk hnn
  obtain ⟨WA, hWA⟩ : ∃ WA, WA = ((W.alloc (.cells #[.int .i64 m.c, .int .i64 m.d, .int .i64 m.s, .int .i64 m.e, .int .i64 m.l, .slice a t.length c] 33)).alloc (.cells #[.slice a' cuts.length c'] 24)).alloc (.cells #[.func (.func f) #[] caps] 53) := ⟨_, rfl⟩
  have hbA : Below W.heap.size W WA := by rw [hWA]; exact by (repeat (first | (with_reducible refine Below.setCell ?_ ?_ _) | (with_reducible refine Below.alloc ?_ ?_ _) | (with_reducible refine Below.drew ?_) | (with_reducible refine below_drewN ?_ _) | (with_reducible exact Below.refl _ _) | (with_reducible assumption) | (with_reducible refine Below.trans ?_ (Below.mono (by with_reducible assumption) ?_)) | go_size))
  have hzA : WA.heap.size = W.heap.size + 3 := by rw [hWA]; simp
  have hA0 : WA.heap[W.heap.size]? = some (.cells #[.int .i64 m.c, .int .i64 m.d, .int .i64 m.s, .int .i64 m.e, .int .i64 m.l, .slice a t.length c] 33 (0, 0)) := by rw [hWA]; simp only [heap_alloc_at, World.size_alloc]; simp; omega
  have hA1 : WA.heap[W.heap.size + 1]? = some (.cells #[.slice a' cuts.length c'] 24 (0, 0)) := by rw [hWA]; simp only [heap_alloc_at, World.size_alloc]; simp
  have hA2 : WA.heap[W.heap.size + 1 + 1]? = some (.cells #[.func (.func f) #[] caps] 53 (0, 0)) := by rw [hWA]; simp only [heap_alloc_at, World.size_alloc]; simp
  have Hf := Lib.hid (And.intro hf (And.intro hn hok)); clear hf hn hok
  have HV := Lib.hid (And.intro V (And.intro hI hFlt)); clear V hI hFlt
  have HzA := Lib.hid hzA; clear hzA
  go_enter Tryz.func27, Tryz.ntmps27
  go_wp2_with fail
  rw [← hWA]
  have HA := Lib.hid (And.intro hA0 (And.intro hA1 hA2)); clear hA0 hA1 hA2
  have HWA := Lib.hid hWA; clear hWA
  refine (partLocks_any m _ _ t cuts n _ Hf.out.1 Hf.out.2.1 (h.below hbA) (hc.below hbA)).mono ?_
  rintro e' wL ⟨lv, rfl, hLk0, hbL⟩
  rw [← Hlocks.out] at hLk0
  obtain ⟨la, lc, rfl, hlm⟩ := hLk0.form
  have hbL0 := hbA.trans (hbL.mono hbA.size)
  have hsz : W.heap.size + 2 < wL.heap.size := by have := hbL.size; have := HzA.out; omega
  have hxL : ∀ o, wL.cell? ⟨W.heap.size, o, none⟩ = (#[.int .i64 m.c, .int .i64 m.d, .int .i64 m.s, .int .i64 m.e, .int .i64 m.l, .slice a t.length c] : Array Value)[o]? := fun o => by
    have := heap_below HA.out.1 hbL (by have := HzA.out; omega)
    exact cell_of_block this o
  obtain ⟨wE, hwE, hbE, hzE, HZE, hcE, hhE⟩ := box_facts wL #[.slice la locks.length lc] 64
  have hxE : ∀ o, (wL.alloc (.cells #[.slice la locks.length lc] 64)).cell? ⟨W.heap.size, o, none⟩ = (#[.int .i64 m.c, .int .i64 m.d, .int .i64 m.s, .int .i64 m.e, .int .i64 m.l, .slice a t.length c] : Array Value)[o]? := fun o => by
    rw [← hwE, (bcell hbE).1 _ _ (by omega), hxL]
  have HhE := Lib.hid hhE; clear hhE hcE
  go_wp2_with fail
  rw [← hwE]
  have HwE := Lib.hid hwE; clear hwE hxL hxE
  have hb0E := hbL0.trans (hbE.mono hbL0.size)
  have hE1 := heap_below (heap_below HA.out.2.1 hbL (by have := HzA.out; omega)) hbE (by omega)
  have hE2 := heap_below (heap_below HA.out.2.2 hbL (by have := HzA.out; omega)) hbE (by omega)
  have hnF : ∀ b, W.heap.size ≤ b → ¬ F0 b := fun b hb hf => by have := HV.out.2.2 b hf; omega
  have VK : VisOk m.c.toNat wE F0 48 #[.pointer (some ⟨W.heap.size + 1, 0, none⟩), .pointer (some ⟨W.heap.size + 1 + 1, 0, none⟩), .pointer (some ⟨wL.heap.size, 0, none⟩)] (outStep step cuts locks) s0 (genF m (fun _ _ => true) [] false m.c.toNat []) Inv := by
    refine ⟨enters_out, HV.out.1.keep, HV.out.1.lt, ?_⟩
    intro s F S w v key done rest hL hs hI hc0 hF hV hS hkl
    have hL' : keysOf m = done ++ key :: rest := (keysA_all m).symm.trans hL
    have hc0' : Chg F0 W w := (Chg.of_below (F := F0) hb0E).trans hc0 (fun i hi => .inl hi)
    have hsz2 := hb0E.size
    have hnb : ∀ b, W.heap.size ≤ b → b < wE.heap.size → ¬ F b := fun b h1 h2 h3 => by
      rcases hF b h3 with h4 | h4
      · exact hnF b h1 h4
      · omega
    have hlt1 : W.heap.size + 1 + 1 < wE.heap.size := by have := hbE.size; omega
    refine out_call HV.out.1 (W.heap.size + 1) (W.heap.size + 1 + 1) wL.heap.size (.slice a' cuts.length c') (.slice la locks.length lc) s F S w v key done rest hL' hs hI hc0' (fun b hb => by rcases hF b hb with h4 | h4; exact .inl h4; right; omega) hV hS hkl
      (cell_of_block (hc0.heap hE1 (hnF _ (by omega))) 0) (cell_of_block (hc0.heap hE2 (hnF _ (by omega))) 0) (cell_of_block (hc0.heap HhE.out (hnF _ (by omega))) 0) ⟨hnb _ (by omega) (by omega), hnb _ (by omega) hlt1, hnb _ (by omega) (by omega)⟩ ?_ ?_ hll Hlk.out.1
    · have h5 : V2 (fun b => ¬ F0 b ∧ b < wE.heap.size) wE (.slice a' cuts.length c') cuts := (hc.below hb0E).mono (fun b h1 h2 => ⟨h1, h2⟩) (fun _ _ _ => rfl)
      exact h5.mono (fun b h1 _ h3 => by rcases hF b h3 with h4 | h4; exact h1.1 h4; have := h1.2; omega) (hc0.keep fun b hb => hb.1)
    · have h5 : V3 (fun b => ¬ F0 b ∧ b < wE.heap.size) wE (.slice la locks.length lc) locks := (hLk0.below hbE).mono (fun b h1 h2 => ⟨hnF b (by have h1' : WA.heap.size ≤ b := h1; have := HzA.out; omega), h2⟩) (fun _ _ _ => rfl)
      exact h5.mono (fun b h1 _ h3 => by rcases hF b h3 with h4 | h4; exact h1.1 h4; have := h1.2; omega) (hc0.keep fun b hb => hb.1)
  have hIE : Inv s0 F0 wE := HV.out.1.keep _ _ _ _ HV.out.2.1 hb0E.size (fun b hb => hb0E.block b (HV.out.2.2 b hb))
  refine (eachKey_any Hf.out.2.2 wE VK (.inl ⟨rfl, fun _ _ => rfl⟩) hIE).mono ?_
  rintro e w' ⟨F', hinv, hchg, hsub, rfl⟩
  rw [show genF m (fun _ _ => true) [] false m.c.toNat [] = keysOf m from keysA_all m] at hinv
  have Hfin := Lib.hid (And.intro hinv (And.intro hchg hsub)); clear hinv hchg hsub VK hIE
  go_wp2_with fail
  go_end0
  exact ⟨F', Hfin.out.1, (Chg.of_below (F := F0) hb0E).trans Hfin.out.2.1 (fun i hi => .inl hi), (fun b hb => by rcases Hfin.out.2.2 b hb with h4 | h4; exact .inl h4; right; have := hb0E.size; omega), rfl⟩
end
end Go.Proofs.YtbckginfipeibaaGreat
