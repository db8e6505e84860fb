/- The ghosts of a lock, as the program visits and counts them. No conditions. -/
import Derived.Test.YtbckginfipeibaaDoorR
namespace Go.Proofs.Ytbckginfipeibaa
open Go.RowKit
set_option linter.unusedVariables false
set_option linter.unusedSimpArgs false

theorem enters_frees : Enters 156 := fun args w => by kernel_rfl
set_option maxRecDepth 100000 in
theorem frees1_any {S : Nat → Prop} (u : Value) (sets : List (List Int)) (k : Nat) (x : Int) (LB : Nat) (w : World) (h : w.cell? ⟨LB, 0, none⟩ = some u) (h2 : V2 S w u sets) (hk : k < sets.length) :
    Calls Try.prog 156 #[.int .i64 (k : Int), .int .i64 x, .pointer (some ⟨LB, 0, none⟩)] w fun e w' => e = .returned (.bool (hasI (getl sets k) x)) ∧ w' = w := by
  obtain ⟨a, c, rfl, hmx⟩ := h2.form
  obtain ⟨b2, off2, a2, c2, rfl, _, hc2, hr2⟩ := h2.cell hk
  have hk0 : (0 : Int) ≤ (k : Int) := by omega
  have hk1 : (k : Int) < (sets.length : Int) := by omega
  go_enter Try.func156, Try.ntmps156
  go_wp2_with fail
  refine (slContains_any _ (getl sets k) x _ hr2).mono ?_
  rintro e' w' ⟨rfl, rfl⟩
  go_wp2_with fail
  go_ret
  exact ⟨rfl, rfl⟩
theorem frees_any (u : Value) (w : World) :
    Calls Try.prog 122 #[.agg #[u]] w fun e w' => e = .returned (.func (.func 156) #[] #[.pointer (some ⟨w.heap.size, 0, none⟩)]) ∧ w' = w.alloc (.cells #[u] 79) := by
  go_enter Try.func122, Try.ntmps122
  go_wp2_with fail
  go_ret
  exact ⟨rfl, rfl⟩
theorem enters_dg : Enters 69 := fun args w => by kernel_rfl
theorem dg1_any (key : Value) (B : Nat) (n : Nat) (T : TypeId) (w : World) (hn : n ≤ 1000000) (hc : w.heap[B]? = some (.cells #[.int .i64 n] T (0, 0))) :
    Calls Try.prog 69 #[key, .pointer (some ⟨B, 0, none⟩)] w fun e w' => e = .returned (.bool true) ∧ w' = w.setCell ⟨B, 0, none⟩ (.int .i64 ((n + 1 : Nat) : Int)) := by
  have hc1 := cell_of_block hc 0
  have hf1 := frozen_of_block hc 0
  simp at hc1
  clear hc
  go_enter Try.func69, Try.ntmps69
  go_wp2_with fail
  go_ret
  exact ⟨rfl, by go_num⟩
theorem c2_below {b1 b2 : Nat} {v1 v2 : Value} {w w' : World} (h : w.cell? ⟨b1, 0, none⟩ = some v1 ∧ w.cell? ⟨b2, 0, none⟩ = some v2) (hb : Below w.heap.size w w') : w'.cell? ⟨b1, 0, none⟩ = some v1 ∧ w'.cell? ⟨b2, 0, none⟩ = some v2 :=
  ⟨cell_keep h.1 (hb.block _ (lt_of_cell h.1)), cell_keep h.2 (hb.block _ (lt_of_cell h.2))⟩
theorem c2_chg {b1 b2 : Nat} {v1 v2 : Value} {w w' : World} {F : Nat → Prop} (h : w.cell? ⟨b1, 0, none⟩ = some v1 ∧ w.cell? ⟨b2, 0, none⟩ = some v2) (hb : Chg F w w') (hn : ¬ F b1 ∧ ¬ F b2) : w'.cell? ⟨b1, 0, none⟩ = some v1 ∧ w'.cell? ⟨b2, 0, none⟩ = some v2 :=
  ⟨cell_keep h.1 (hb.block _ (lt_of_cell h.1) hn.1), cell_keep h.2 (hb.block _ (lt_of_cell h.2) hn.2)⟩
def cgStep (cuts : List (List Int)) (n : Nat) (k : List Int) : Nat × Bool := (if hasL cuts k = true then n else n + 1, true)
theorem cg_run (cuts : List (List Int)) : ∀ (l : List (List Int)) (n : Nat), runL (cgStep cuts) n l = (n + l.countP fun k => !hasL cuts k, true)
  | [], n => by simp [runL]
  | k :: l, n => by
    show (if (cgStep cuts n k).2 then runL (cgStep cuts) (cgStep cuts n k).1 l else cgStep cuts n k) = _
    simp only [cgStep, if_true]
    rw [cg_run cuts l, List.countP_cons]
    cases hasL cuts k <;> simp <;> omega
theorem enters_gh : Enters 123 := fun args w => by kernel_rfl
set_option maxRecDepth 100000 in
set_option maxHeartbeats 1000000 in
theorem eg1_any {S S' : Nat → Prop} (AB VB NB : Nat) (cv v : Value) (cuts : List (List Int)) (key : List Int) (n : Nat) (T : TypeId) (w : World) (h1 : w.cell? ⟨AB, 0, none⟩ = some cv) (h2 : w.cell? ⟨VB, 0, none⟩ = some (.func (.func 69) #[] #[.pointer (some ⟨NB, 0, none⟩)]))
    (h3 : w.heap[NB]? = some (.cells #[.int .i64 n] T (0, 0))) (hne : ¬ AB = NB ∧ ¬ VB = NB) (hcv : V2 S w cv cuts) (hV : V1 S' w v key) (hn : n ≤ 1000000) :
    Calls Try.prog 123 #[v, .pointer (some ⟨AB, 0, none⟩), .pointer (some ⟨VB, 0, none⟩)] w fun e w' => e = .returned (.bool true) ∧ w'.heap[NB]? = some (.cells #[.int .i64 ((cgStep cuts n key).1 : Nat)] T (0, 0)) ∧ Chg (fun b => b = NB) w w' := by
  obtain ⟨ka, kc, rfl, hkm⟩ := hV.form
  obtain ⟨ca, cc, rfl, hcm⟩ := hcv.form
  have hen := enters_dg
  unfold Enters at hen
  cases hh : hasL cuts key
  · have hst : (cgStep cuts n key).1 = n + 1 := by unfold cgStep; rw [if_neg (by rw [hh]; decide)]
    rw [hst]
    have Hh := Lib.hid (And.intro hh (And.intro hst h3)); clear hh hst h3
    go_enter Try.func123, Try.ntmps123
    go_wp2_with fail
    refine (contains_b _ _ cuts key _ _ Hh.out.1 hcv hV).mono ?_
    rintro e' w1 ⟨rfl, hb01⟩
    have h31 := heap_below Hh.out.2.2 hb01 (lt_of_heap Hh.out.2.2)
    have h21 := cell_keep h2 (hb01.block _ (lt_of_cell h2))
    have H31 := Lib.hid h31; clear h31
    go_wp2_with fail
    refine (dg1_any _ NB n T _ hn H31.out).mono ?_
    rintro e' w3 ⟨rfl, hw3⟩
    have hchg : Chg (fun b => b = NB) w1 w3 := by rw [hw3]; exact Chg.setCell (F := fun b => b = NB) (Chg.refl _ _) (p := ⟨NB, 0, none⟩) (.inl rfl) _
    have h33 : w3.heap[NB]? = some (.cells #[.int .i64 ((n + 1 : Nat) : Int)] T (0, 0)) := by rw [hw3, heap_setCell_self H31.out]; rfl
    clear hw3
    have Hfin := Lib.hid (And.intro h33 ((Chg.of_below (F := fun b => b = NB) hb01).trans hchg (fun i hi => .inl hi)))
    clear hchg h33
    go_wp2_with fail
    go_ret
    exact ⟨rfl, Hfin.out⟩
  · have hst : (cgStep cuts n key).1 = n := by unfold cgStep; rw [if_pos hh]
    rw [hst]
    have Hh := Lib.hid (And.intro hh (And.intro hst h3)); clear hh hst h3
    go_enter Try.func123, Try.ntmps123
    go_wp2_with fail
    refine (contains_b _ _ cuts key _ _ Hh.out.1 hcv hV).mono ?_
    rintro e' w1 ⟨rfl, hb01⟩
    have Hb := Lib.hid (And.intro hb01 (heap_below Hh.out.2.2 hb01 (lt_of_heap Hh.out.2.2)))
    go_wp2_with fail
    go_ret
    exact ⟨rfl, Hb.out.2, Chg.of_below Hb.out.1⟩

theorem eg_ok (m : Mk) (hm : m.ok = true) (A : Nat → Int → Bool) (AB VB NB : Nat) (cv : Value) (cuts : List (List Int)) (W : World) (h1 : W.cell? ⟨AB, 0, none⟩ = some cv) (h2 : W.cell? ⟨VB, 0, none⟩ = some (.func (.func 69) #[] #[.pointer (some ⟨NB, 0, none⟩)]))
    (hne : ¬ AB = NB ∧ ¬ VB = NB) (hcv : V2 (fun b => ¬ b = NB) W cv cuts) : VisOk m.c.toNat W (fun b => b = NB) 123 #[.pointer (some ⟨AB, 0, none⟩), .pointer (some ⟨VB, 0, none⟩)] (cgStep cuts) 0 (keysA m A) (CntInv NB) := by
  refine ⟨enters_gh, ?_, ?_, ?_⟩
  · rintro s F w w' ⟨h1, T, h2⟩ _ h3
    exact ⟨h1, T, by rw [h3 NB ((h1 NB).2 rfl), h2]⟩
  · rintro s F w ⟨h1, T, h2⟩ b hb
    rw [(h1 b).1 hb]; exact lt_of_heap h2
  · rintro s F S w v key done rest hL hr ⟨g1, T, g2⟩ hchg hsub hV hS hlen
    rw [cg_run] at hr
    have hle := keysA_length (A := A) hm
    rw [hL] at hle
    simp only [Prod.mk.injEq, and_true] at hr
    have hcp : (done.countP fun k => !hasL cuts k) ≤ done.length := List.countP_le_length
    refine (eg1_any AB VB NB cv v cuts key s T w (cell_keep h1 (hchg.block _ (lt_of_cell h1) hne.1)) (cell_keep h2 (hchg.block _ (lt_of_cell h2) hne.2)) g2 hne (hcv.mono (S' := fun _ => True) (fun _ _ _ => trivial) (hchg.keep fun b hb => hb)) hV (by simp at hle; omega)).mono ?_
    rintro e w' ⟨rfl, h4, h5⟩
    exact ⟨F, rfl, ⟨g1, T, h4⟩, h5.mono (fun b hb => (g1 b).2 hb), fun b hb => .inl hb⟩
theorem fr_aok (m : Mk) (sets : List (List Int)) (hsl : (sets.length : Int) = m.c) (u : Value) (LB NB : Nat) (W : World) (h : W.cell? ⟨LB, 0, none⟩ = some u) (hne : ¬ LB = NB) (h2 : V2 (fun b => ¬ b = NB) W u sets) : AOk m W (fun b => b = NB) (.func (.func 156) #[] #[.pointer (some ⟨LB, 0, none⟩)]) (allowS sets) :=
  .inr ⟨_, _, rfl, enters_frees, fun c x w hc _ _ hch => (frees1_any (S := fun _ => True) u sets c x LB w (cell_keep h (hch.block _ (lt_of_cell h) hne)) (h2.mono (fun _ _ _ => trivial) (hch.keep fun b hb => hb)) (by omega)).mono fun _ _ ⟨h1, h2⟩ => ⟨h1, 0, by rw [h2]; rfl⟩⟩
theorem cg_ghosts (m : Mk) (sets cuts : List (List Int)) : (runL (cgStep cuts) 0 (genF m (allowS sets) [] false m.c.toNat [])).1 = ghostsN m sets cuts := by
  show (runL (cgStep cuts) 0 (keysA m (allowS sets))).1 = _
  rw [cg_run, openers_keys, Nat.zero_add]; rfl
theorem al_below {w w' : World} {o : Obj} (h : w' = w.drew.alloc o) : Below w.heap.size w w' := by
  rw [h]; exact ((Below.refl _ _).drew).alloc (Nat.le_refl _) _
theorem al_cell {w w' : World} {v : Value} {T : TypeId} (h : w' = w.drew.alloc (.cells #[v] T)) : w'.cell? ⟨w.heap.size, 0, none⟩ = some v := by
  rw [h]; exact cell_of_block (w := w.drew.alloc (.cells #[v] T)) (heap_alloc_self w.drew _) 0
section
variable {b0 b1 : Nat} {cs : Array Value} {v1 : Value} {F : Nat → Prop} {wr w w' : World}
theorem eh_at (hlt : b0 < wr.heap.size ∧ b1 < wr.heap.size) (hne : ¬ F b0 ∧ ¬ F b1) (h : (∀ o, wr.cell? ⟨b0, o, none⟩ = cs[o]?) ∧ wr.cell? ⟨b1, 0, none⟩ = some v1) (hc : Chg F wr w') : (∀ o, w'.cell? ⟨b0, o, none⟩ = cs[o]?) ∧ w'.cell? ⟨b1, 0, none⟩ = some v1 ∧ Chg F wr w' :=
  ⟨fun o => by rw [hc.cell hlt.1 hne.1, h.1], by rw [hc.cell hlt.2 hne.2, h.2], hc⟩
end
set_option maxRecDepth 100000 in
set_option maxHeartbeats 1000000 in
theorem eachGhost_any (m : Mk) (hm : m.ok = true) (sets : List (List Int)) (hsl : (sets.length : Int) = m.c) (u v : Value) (cuts : List (List Int)) (NB : Nat) (T : TypeId) (W : World) (h2 : V2 (fun b => ¬ b = NB) W u sets) (hc : V2 (fun b => ¬ b = NB) W v cuts) (h3 : W.heap[NB]? = some (.cells #[.int .i64 ((0 : Nat) : Int)] T (0, 0))) :
    Calls Try.prog 68 #[.agg #[.int .i64 m.c, .int .i64 m.d, .int .i64 m.s, .int .i64 m.e, .int .i64 m.l], .agg #[u], v, .func (.func 69) #[] #[.pointer (some ⟨NB, 0, none⟩)]] W fun e w' => e = .returned undef ∧ (∃ T', w'.heap[NB]? = some (.cells #[.int .i64 (ghostsN m sets cuts : Nat)] T' (0, 0))) ∧ Chg (fun b => b = NB) W w' := by
  obtain ⟨ua, uc, rfl, hux⟩ := h2.form
  obtain ⟨ca, cc, rfl, hcx⟩ := hc.form
  have hltN := lt_of_heap h3
  obtain ⟨WA, hWA⟩ : ∃ WA, WA = (((W.alloc (.cells #[.int .i64 m.c, .int .i64 m.d, .int .i64 m.s, .int .i64 m.e, .int .i64 m.l] 32)).alloc (.cells #[.slice ua sets.length uc] 79)).alloc (.cells #[.slice ca cuts.length cc] 24)).alloc (.cells #[.func (.func 69) #[] #[.pointer (some ⟨NB, 0, none⟩)]] 73) := ⟨_, rfl⟩
  have hbA : Below W.heap.size W WA := by rw [hWA]; exact by (repeat (first | (with_reducible refine Below.setCell ?_ ?_ _) | (with_reducible refine Below.alloc ?_ ?_ _) | (with_reducible refine Below.drew ?_) | (with_reducible refine below_drewN ?_ _) | (with_reducible exact Below.refl _ _) | (with_reducible assumption) | (with_reducible refine Below.trans ?_ (Below.mono (by with_reducible assumption) ?_)) | go_size))
  have hzA : WA.heap.size = W.heap.size + 4 := by rw [hWA]; simp
  have hA0 : WA.heap[W.heap.size]? = some (.cells #[.int .i64 m.c, .int .i64 m.d, .int .i64 m.s, .int .i64 m.e, .int .i64 m.l] 32 (0, 0)) := by rw [hWA]; simp only [heap_alloc_at, World.size_alloc]; (repeat rw [if_neg (by omega)]); simp
  have hA1 : WA.heap[W.heap.size + 1]? = some (.cells #[.slice ua sets.length uc] 79 (0, 0)) := by rw [hWA]; simp only [heap_alloc_at, World.size_alloc]; simp
  have hA2 : WA.heap[W.heap.size + 1 + 1]? = some (.cells #[.slice ca cuts.length cc] 24 (0, 0)) := by rw [hWA]; simp only [heap_alloc_at, World.size_alloc]; simp
  have hA3 : WA.heap[W.heap.size + 1 + 1 + 1]? = some (.cells #[.func (.func 69) #[] #[.pointer (some ⟨NB, 0, none⟩)]] 73 (0, 0)) := by rw [hWA]; simp only [heap_alloc_at, World.size_alloc]; simp
  have HA := Lib.hid (And.intro hA0 (And.intro hA1 (And.intro hA2 (And.intro hA3 hzA)))); clear hA0 hA1 hA2 hA3 hzA
  have H := Lib.hid (And.intro hm (And.intro hsl (And.intro h2 (And.intro hc h3)))); clear hm hsl h2 hc h3
  go_enter Try.func68, Try.ntmps68
  go_wp2_with fail
  rw [← hWA]
  have hcA := And.intro (fun o => cell_of_block HA.out.1 o) (show WA.cell? ⟨W.heap.size + 1, 0, none⟩ = some (.slice ua sets.length uc) from cell_of_block HA.out.2.1 0)
  have HWA := Lib.hid hWA; clear hWA
  have hltA : W.heap.size < WA.heap.size ∧ W.heap.size + 1 < WA.heap.size := by have := HA.out.2.2.2.2; omega
  have hneA : ¬ W.heap.size = NB ∧ ¬ W.heap.size + 1 = NB := by omega
  go_region_held3 (fun w' => (∀ o, w'.cell? ⟨W.heap.size, o, none⟩ = (#[.int .i64 m.c, .int .i64 m.d, .int .i64 m.s, .int .i64 m.e, .int .i64 m.l] : Array Value)[o]?) ∧ w'.cell? ⟨W.heap.size + 1, 0, none⟩ = some (.slice ua sets.length uc) ∧ Chg (fun b => b = NB) WA w') (first | exact eh_at hltA hneA hcA (Chg.refl _ _).drew | exact eh_at hltA hneA hcA (Chg.of_below hbE) | exact eh_at hltA hneA hcA ((Chg.of_below (F := fun b => b = NB) hbE).trans hchg (fun i hi => .inl hi)) | assumption) (first | (go_at_call 122; refine (frees_any _ _).mono ?_; rintro e' wE ⟨rfl, hwE⟩; have hbE := al_below hwE; have hE0 := al_cell hwE; clear hwE) | (go_at_call 58; refine (eachKey_any H.out.1 wE (eg_ok m H.out.1 _ _ _ NB _ cuts wE (cell_keep (show WA.cell? ⟨W.heap.size + 1 + 1, 0, none⟩ = some (.slice ca cuts.length cc) from cell_of_block HA.out.2.2.1 0) (hbE.block _ (lt_of_heap HA.out.2.2.1))) (cell_keep (show WA.cell? ⟨W.heap.size + 1 + 1 + 1, 0, none⟩ = some _ from cell_of_block HA.out.2.2.2.1 0) (hbE.block _ (lt_of_heap HA.out.2.2.2.1))) ⟨by omega, by omega⟩ ((H.out.2.2.2.1.below hbA).below hbE)) (fr_aok m sets H.out.2.1 _ _ NB wE hE0 (by have := hbA.size; omega) ((H.out.2.2.1.below hbA).below hbE)) ⟨fun b => Iff.rfl, T, heap_below (heap_below H.out.2.2.2.2 hbA hltN) hbE (by have := hbA.size; omega)⟩).mono ?_; rintro e' w5 ⟨F', ⟨hF', T5, hc5⟩, hchg, hsub, rfl⟩))
  all_goals
    rw [cg_ghosts] at hc5
    have Hfin := Lib.hid (And.intro hc5 (((Chg.of_below (F := fun b => b = NB) hbA).trans (Chg.of_below (F := fun b => b = NB) hbE) (fun i hi => .inl hi)).trans hchg (fun i hi => .inl hi)))
    clear hc5 hchg
    go_wp2_with fail
    go_end0
    exact ⟨rfl, ⟨T5, Hfin.out.1⟩, Hfin.out.2⟩
end Go.Proofs.Ytbckginfipeibaa
