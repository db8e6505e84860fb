/- The program's reader of steps, as it is called. No conditions. -/
import Derived.Deep.RegionHeld3
import Derived.Test.YtbekpololmahoaaGreatDoorReadI
import Derived.Test.YtbekpololmahoaaGreatDoorMDraw23
import Derived.Test.YtbekpololmahoaaGreatDoorMEach5
namespace Go.Proofs.YtbekpololmahoaaGreatDoor
open Go.RowKit
set_option linter.unusedVariables false
set_option linter.unusedSimpArgs false
def RvInv (m : Mk) (tv sv : Value) (steps : List (Int × Int)) (RB B FB : Nat) (st : RSt × Bool) (F : Nat → Prop) (w : World) : Prop :=
 ∃ gv, Rd m tv sv steps RB B st.1 gv w ∧ w.heap[FB]? = some (.cells #[.bool st.2] 4 (0, 0)) ∧ ¬ RF RB gv FB ∧ ∀ b, F b ↔ (RF RB gv b ∨ b = FB)
theorem enters_refute1 : Enters 53 := fun args w => by kernel_rfl
theorem rv_ok (m : Mk) (t : List (List Int)) (n : Nat) (hn : (n : Int) = m.c) (steps : List (Int × Int)) (hsl : steps.length ≤ 1200) (tv sv cv gv0 : Value) (RB B FB B2 B3 d : Nat) (cuts : List (List Int)) (s0 : RSt) (w0 : World)
  (hp : PartOk m t cuts) (hl : cuts.length < t.length) (hcd : cuts.length + (d + 1) = t.length) (IH : RefAny m t tv sv steps RB B d n)
  (h2 : w0.cell? ⟨B2, 0, none⟩ = some (.pointer (some ⟨RB, 0, none⟩))) (f2 : ¬ (RF RB gv0 B2 ∨ B2 = FB)) (h3 : w0.cell? ⟨B3, 0, none⟩ = some cv) (f3 : ¬ (RF RB gv0 B3 ∨ B3 = FB))
  (ht : V2 (fun b => ¬ (RF RB gv0 b ∨ b = FB) ∧ b < w0.heap.size) w0 tv t) (hs : VS (fun b => ¬ (RF RB gv0 b ∨ b = FB) ∧ b < w0.heap.size) w0 sv steps) (hc : V2 (fun b => ¬ (RF RB gv0 b ∨ b = FB) ∧ b < w0.heap.size) w0 cv cuts) (hcp : cuts = [] → PV cv) :
  VisOk m.c.toNat w0 (fun b => RF RB gv0 b ∨ b = FB) 53 #[.pointer (some ⟨B2, 0, none⟩), .pointer (some ⟨FB, 0, none⟩), .pointer (some ⟨B3, 0, none⟩)] (flag (rdStep n t steps (readF n t (keysOf m) steps d) cuts)) (s0, true) (genF m (fun _ _ => true) [] false m.c.toNat []) (RvInv m tv sv steps RB B FB) := by
 refine ⟨enters_refute1, ?_, ?_, ?_⟩
 ·rintro s F w w' ⟨gv, h1, h2, h3, h4⟩ hz hk
  exact ⟨gv, h1.keep hz (fun b hb => hk b ((h4 b).2 (.inl hb))), by rw [hk FB ((h4 FB).2 (.inr rfl))]; exact h2, h3, h4⟩
 ·rintro s F w ⟨gv, h1, h2, h3, h4⟩ b hb
  rcases (h4 b).1 hb with h | h
  ·exact h1.lt h
  ·subst h; exact lt_of_heap h2
 ·rintro ⟨s, fl⟩ F S w v key done rest hL hr ⟨gv, hR, hFB, hFn, hFi⟩ hchg hsub hV hS hlen
  have hkey : isKeyB m key = true := by
   have hc0 : 0 ≤ m.c := by omega
   refine (mem_keysOf hc0).1 ?_
   have hk : key ∈ genF m (fun _ _ => true) [] false m.c.toNat [] := by rw [hL]; simp
   rw [genF_free] at hk
   exact hk
  have hfar : ∀ b, (¬ (RF RB gv0 b ∨ b = FB) ∧ b < w0.heap.size) → ¬ RF RB gv b ∧ b ≠ FB ∧ b < w.heap.size := fun b hb => by
   refine ⟨fun h => ?_, fun h => hb.1 (.inr h), by have := hchg.size; omega⟩
   rcases hsub b ((hFi b).2 (.inl h)) with h1 | h1
   ·exact hb.1 h1
   ·omega
  have hkp : Keep (fun b => ¬ (RF RB gv0 b ∨ b = FB) ∧ b < w0.heap.size) w0 w := hchg.keep fun b hb => hb.1
  refine (refute1_any (Far := fun b => ¬ (RF RB gv0 b ∨ b = FB) ∧ b < w0.heap.size) m t n hn steps hsl tv sv cv v gv RB B FB B2 B3 d cuts key s fl w hp hl hcd IH hR hFB hFn hfar (cell_keep h2 (hchg.block _ (lt_of_cell h2) f2)) ⟨f2, lt_of_cell h2⟩ (cell_keep h3 (hchg.block _ (lt_of_cell h3) f3)) ⟨f3, lt_of_cell h3⟩
   (ht.mono (fun _ h _ => h) hkp) (hs.mono (fun _ h _ => h) hkp) (hc.mono (fun _ h _ => h) hkp) hcp hV hkey).mono ?_
  rintro e w' ⟨gv', rfl, h1, h2, h3, h4⟩
  refine ⟨fun b => RF RB gv' b ∨ b = FB, rfl, ⟨gv', h1, h2, fun h => ?_, fun b => Iff.rfl⟩, h3.mono (fun b hb => (hFi b).2 hb), fun b hb => ?_⟩
  ·have := lt_of_heap hFB
   rcases h4 FB h with h | h
   ·exact hFn h
   ·omega
  ·rcases hb with h | h
   ·rcases h4 b h with h | h
    ·exact .inl ((hFi b).2 (.inl h))
    ·exact .inr h
   ·exact .inl ((hFi b).2 (.inr h))
set_option maxRecDepth 100000 in
set_option maxHeartbeats 1000000 in
theorem refute_any (m : Mk) (t : List (List Int)) (n : Nat) (hn : (n : Int) = m.c) (steps : List (Int × Int)) (hsl : steps.length ≤ 1200) (tv sv : Value) (RB B : Nat) : ∀ d, RefAny m t tv sv steps RB B d n := by
 intro d
 induction d with
 | zero => intro cuts cv s gv W hcd ask; have := ask.lt; omega
 | succ d ih =>
   intro cuts cv s gv W hcd ask
   obtain ⟨hR, ht, hs, hc, hcp, hok, hlt⟩ := ask
   have hmk := hok.fits.ok
   have hRl := lt_of_heap hR.hh
   obtain ⟨ta, tc, rfl, htm⟩ := ht.form
   obtain ⟨sa, sc, rfl, hsm⟩ := hs.form
   obtain ⟨ca, cc, rfl, hcm⟩ := hc.form
   obtain ⟨ga, gc, rfl, hg1, hg2⟩ := own_formz hR.own
   obtain ⟨WA, hWA⟩ : ∃ WA, WA = ((W.alloc (.cells #[.pointer (some ⟨RB, 0, none⟩)] 64)).alloc (.cells #[.slice ca cuts.length cc] 33)).alloc (.cells #[.bool true] 4) := ⟨_, rfl⟩
   have hbA : Below W.heap.size W WA := by rw [hWA]; exact by (repeat (first | (with_reducible refine Below.setCell ?_ ?_ _) | (with_reducible refine Below.alloc ?_ ?_ _) | (with_reducible refine Below.drew ?_) | (with_reducible refine below_drewN ?_ _) | (with_reducible exact Below.refl _ _) | (with_reducible assumption) | (with_reducible refine Below.trans ?_ (Below.mono (by with_reducible assumption) ?_)) | go_size))
   have hzA : WA.heap.size = W.heap.size + 3 := by rw [hWA]; simp
   have hA0 : WA.heap[W.heap.size]? = some (.cells #[.pointer (some ⟨RB, 0, none⟩)] 64 (0, 0)) := by rw [hWA]; simp only [heap_alloc_at, World.size_alloc]; simp; omega
   have hA1 : WA.heap[W.heap.size + 1]? = some (.cells #[.slice ca cuts.length cc] 33 (0, 0)) := by rw [hWA]; simp only [heap_alloc_at, World.size_alloc]; simp
   have hA2 : WA.heap[W.heap.size + 1 + 1]? = some (.cells #[.bool true] 4 (0, 0)) := by rw [hWA]; simp only [heap_alloc_at, World.size_alloc]; simp
   have hRA := hR.below hbA
   have hFn : ¬ RF RB (.slice ga s.2.length gc) (W.heap.size + 1 + 1) := fun h => by have := hR.lt h; omega
   have hol : ∀ b, b < W.heap.size → ¬ RF RB (.slice ga s.2.length gc) b → ¬ (RF RB (.slice ga s.2.length gc) b ∨ b = W.heap.size + 1 + 1) := fun b hb h h2 => by rcases h2 with h2 | h2; exact h h2; omega
   have hnew : ∀ b, W.heap.size ≤ b → b < W.heap.size + 1 + 1 → ¬ (RF RB (.slice ga s.2.length gc) b ∨ b = W.heap.size + 1 + 1) := fun b h1 h2 h => by
    rcases h with h | h
    ·have := hR.lt h; omega
    ·omega
   have hkA : Keep (fun b => ¬ RF RB (.slice ga s.2.length gc) b) W WA := fun b _ hb => hbA.block b hb
   have htA := ht.mono (S' := fun b => ¬ (RF RB (.slice ga s.2.length gc) b ∨ b = W.heap.size + 1 + 1) ∧ b < WA.heap.size) (fun b h1 h2 => ⟨hol b h2 h1, by omega⟩) hkA
   have hsA := hs.mono (S' := fun b => ¬ (RF RB (.slice ga s.2.length gc) b ∨ b = W.heap.size + 1 + 1) ∧ b < WA.heap.size) (fun b h1 h2 => ⟨hol b h2 h1, by omega⟩) hkA
   have hcA := hc.mono (S' := fun b => ¬ (RF RB (.slice ga s.2.length gc) b ∨ b = W.heap.size + 1 + 1) ∧ b < WA.heap.size) (fun b h1 h2 => ⟨hol b h2 h1, by omega⟩) hkA
   have hV := rv_ok m t n hn steps hsl (.slice ta t.length tc) (.slice sa steps.length sc) (.slice ca cuts.length cc) (.slice ga s.2.length gc) RB B (W.heap.size + 1 + 1) W.heap.size (W.heap.size + 1) d cuts s WA hok hlt (by omega) ih
    (by rw [cell_of_block hA0]; rfl) (hnew _ (Nat.le_refl _) (by omega)) (by rw [cell_of_block hA1]; rfl) (hnew _ (by omega) (by omega)) htA hsA hcA hcp
   have hI : RvInv m (.slice ta t.length tc) (.slice sa steps.length sc) steps RB B (W.heap.size + 1 + 1) (s, true) (fun b => RF RB (.slice ga s.2.length gc) b ∨ b = W.heap.size + 1 + 1) WA := ⟨_, hRA, hA2, hFn, fun b => Iff.rfl⟩
   have hek := eachKey_any (A := fun _ _ => true) (av := .nilFunc) hmk WA hV (.inl ⟨rfl, fun _ _ => rfl⟩) hI
   have hkx : ∀ o1 o2 o3 k, (((W.alloc o1).alloc o2).alloc o3).cell? ⟨RB, k, none⟩ = (#[.int .i64 m.c, .int .i64 m.d, .int .i64 m.s, .int .i64 m.e, .int .i64 m.l, .slice ta t.length tc, .slice sa steps.length sc, .int .i64 (s.1 : Int), .slice ga s.2.length gc] : Array Value)[k]? := fun o1 o2 o3 k => by
    rw [(bcell (show Below W.heap.size W (((W.alloc o1).alloc o2).alloc o3) from by go_grown)).1 _ _ hRl, hR.cell]; rfl
   rw [genF_free, runL_flag] at hek
   have hres : readF n t (keysOf m) steps (d + 1) cuts s = runL (rdStep n t steps (readF n t (keysOf m) steps d) cuts) s (keysOf m) := rfl
   have hgen : gen m m.c.toNat [] = keysOf m := rfl
   rw [hgen] at hek
   obtain ⟨r, hr⟩ : ∃ r, runL (rdStep n t steps (readF n t (keysOf m) steps d) cuts) s (keysOf m) = r := ⟨_, rfl⟩
   rw [hr] at hek hres
   rw [hres]
   have Hek := Lib.hid (And.intro hek (And.intro hR (And.intro hbA (And.intro hzA hWA)))); clear hek hV hI hR hRA hbA hA0 hA1 hA2 hr hres ih ht hs hc htA hsA hcA hkA hnew hol hFn hok hcp hWA
   clear hzA
   go_enter Tryz.func34, Tryz.ntmps34
   go_wp2_with fail
   rw [← Hek.out.2.2.2.2]
   refine Hek.out.1.mono ?_
   rintro e' w' ⟨F', ⟨gv', h1, h2, h3, h4⟩, hch, hsub, rfl⟩
   have hzA := Hek.out.2.2.2.1
   have hzw := hch.size
   have cF : w'.cell? ⟨W.heap.size + 1 + 1, 0, none⟩ = some (.bool r.2) := by rw [cell_of_block h2]; rfl
   have hchW : Chg (RF RB (.slice ga s.2.length gc)) W w' := (Chg.of_below Hek.out.2.2.1).trans hch (fun i hi => by
    rcases hi with hi | hi
    ·exact .inl hi
    ·right; omega)
   have hsW : ∀ b, RF RB gv' b → RF RB (.slice ga s.2.length gc) b ∨ W.heap.size ≤ b := fun b hb => by
    rcases hsub b ((h4 b).2 (.inl hb)) with (h | h) | h
    ·exact .inl h
    ·right; omega
    ·right; omega
   have HF := Lib.hid (And.intro h1 (And.intro hchW hsW)); clear h1 h2 h3 h4 hch hsub hchW hsW
   go_wp2_with fail
   go_ret
   exact ⟨gv', rfl, HF.out.1, HF.out.2.1, HF.out.2.2⟩
def RfF (PB KB NB : Nat) (gv : Value) (b : Nat) : Prop := b = PB ∨ b = KB ∨ b = NB ∨ gv.ownBlock = some b
structure Rf (PB KB NB B : Nat) (s : FSt) (gv : Value) (w : World) : Prop where
 hp : w.heap[PB]? = some (.cells #[gv] 24 (0, 0))
 hk : w.heap[KB]? = some (.cells #[.bool (decide (s.2 = 3))] 4 (0, 0))
 hn : w.heap[NB]? = some (.cells #[.bool (decide (s.2 = 5))] 4 (0, 0))
 own : w.ownsRow B 48 2 gv (rfL s).length (flatS (rfL s))
 ne : gv.ownBlock ≠ some PB ∧ gv.ownBlock ≠ some KB ∧ gv.ownBlock ≠ some NB
 ok : RfOk s
 lo : B ≤ w.heap.size
 df : PB ≠ KB ∧ PB ≠ NB ∧ KB ≠ NB
section
variable {gv : Value} {PB KB NB B : Nat} {s : FSt} {w w' : World}
theorem Rf.keep (h : Rf PB KB NB B s gv w) (hz : w.heap.size ≤ w'.heap.size) (hk : ∀ b, RfF PB KB NB gv b → w'.heap[b]? = w.heap[b]?) : Rf PB KB NB B s gv w' := by
 refine ⟨by rw [hk PB (.inl rfl)]; exact h.hp, by rw [hk KB (.inr (.inl rfl))]; exact h.hk, by rw [hk NB (.inr (.inr (.inl rfl)))]; exact h.hn, ⟨h.own.1, ?_⟩, h.ne, h.ok, Nat.le_trans h.lo hz, h.df⟩
 rcases h.own.2 with h0 | ⟨g, cap, cur, rfl, h1, h2, h3⟩
 ·exact .inl h0
 ·exact .inr ⟨g, cap, cur, rfl, h1, by rw [hk g (.inr (.inr (.inr rfl)))]; exact h2, h3⟩
theorem Rf.lt (h : Rf PB KB NB B s gv w) {b : Nat} (hb : RfF PB KB NB gv b) : b < w.heap.size := by
 rcases hb with rfl | rfl | rfl | hb
 ·exact lt_of_heap h.hp
 ·exact lt_of_heap h.hk
 ·exact lt_of_heap h.hn
 ·exact (h.own.lt _ hb).2
theorem Rf.below (h : Rf PB KB NB B s gv w) (hb : Below w.heap.size w w') : Rf PB KB NB B s gv w' := h.keep hb.size fun b hf => hb.block b (h.lt hf)
end
theorem own_some2 {w : World} {B z : Nat} {e : TypeId} {v : Value} {n : Nat} {xs : List Value} (h : w.ownsRow B e z v (n + 1) xs) : ∃ g cap, v = .slice (some ⟨g, 0, none⟩) (n + 1) cap ∧ g < w.heap.size := by
 rcases h.2 with ⟨_, h0⟩ | ⟨g, cap, cur, rfl, _, hh, _⟩
 ·omega
 ·exact ⟨g, cap, rfl, lt_of_heap hh⟩
theorem l19Pair_b {S : Nat → Prop} (v : Value) (L : List (List Int)) (x : Int × Int) (W : World) (r : Bool) (hr : hasL L [x.1, x.2] = r) (h : V2 S W v L) :
  Calls Tryz.prog 63 #[v, .agg #[.int .i64 x.1, .int .i64 x.2]] W fun e' w' => e' = .returned (.bool r) ∧ Below W.heap.size W w' := by
 obtain ⟨a, c, rfl, hm⟩ := h.form
 have hbA : Below W.heap.size W ((W.alloc (.cells #[.int .i64 x.1, .int .i64 x.2] 48)).alloc (.cells #[.int .i64 x.1, .int .i64 x.2] 2)) := ((Below.refl _ _).alloc (Nat.le_refl _) _).alloc (by simp) _
 have hpr : X1 ((W.alloc (.cells #[.int .i64 x.1, .int .i64 x.2] 48)).alloc (.cells #[.int .i64 x.1, .int .i64 x.2] 2)) (.slice (some ⟨(W.alloc (.cells #[.int .i64 x.1, .int .i64 x.2] 48)).heap.size, 0, none⟩) 2 2) [x.1, x.2] (W.alloc (.cells #[.int .i64 x.1, .int .i64 x.2] 48)).heap.size := pair_X1 (Below.refl _ _)
 have hpv := hpr.v1 (S := fun _ => True) (fun _ => trivial)
 rw [show (W.alloc (.cells #[.int .i64 x.1, .int .i64 x.2] 48)).heap.size = W.heap.size + 1 from by simp] at hpv
 have hA := h.below hbA
 clear hpr
 have Hr := Lib.hid hr; clear hr
 go_enter Tryz.func63, Tryz.ntmps63
 go_wp2_with fail
 refine (l14Has_b _ _ L [x.1, x.2] _ r Hr.out hA hpv).mono ?_
 rintro e' w' ⟨rfl, nq, hw⟩
 have hB : Below W.heap.size W w' := by rw [hw]; exact below_drewN hbA _
 clear hw
 go_wp2_with fail
 go_ret
 exact ⟨rfl, hB⟩
/-- The steps as they are being shifted, or nothing at all. -/
def ShV (steps : List (Int × Int)) (shv : Value) (F : Nat → Prop) (w : World) (s : RSt) : Prop :=
 (shv = .slice none 0 0 ∧ ∀ b, ¬ F b) ∨
 ∃ G c cs, shv = .slice (some ⟨G, 0, none⟩) steps.length c ∧ (∀ b, F b ↔ b = G) ∧ steps.length ≤ c ∧ c ≤ maxLen ∧ w.heap[G]? = some (.cells cs 48 (0, 0)) ∧ steps.length * 2 ≤ cs.size ∧
   ∀ k, k < steps.length → cs[k * 2]? = some (.int .i64 (gets (s.2 ++ steps.drop s.1) k).1) ∧ cs[k * 2 + 1]? = some (.int .i64 (gets (s.2 ++ steps.drop s.1) k).2)
theorem cur_open {steps : List (Int × Int)} {s : RSt} (h : s.1 < steps.length) : (s.2 ++ [gets steps s.1]) ++ steps.drop (s.1 + 1) = s.2 ++ steps.drop s.1 := by
 rw [List.append_assoc, List.drop_eq_getElem_cons h, gets_eq h]; rfl
theorem cur_set {steps : List (Int × Int)} {s : RSt} {y : Int × Int} {k : Nat} (hok : RdOk steps s) (h : s.1 < steps.length) : gets ((s.2 ++ [y]) ++ steps.drop (s.1 + 1)) k = if k = s.1 then y else gets (s.2 ++ steps.drop s.1) k := by
 have h2 := hok.2
 unfold gets
 simp only [List.getD_eq_getElem?_getD]
 by_cases hk : k = s.1
 ·rw [if_pos hk, List.append_assoc, List.getElem?_append_right (by omega)]
  simp [hk, h2]
 ·rw [if_neg hk]
  by_cases hlt : k < s.1
  ·rw [List.append_assoc, List.getElem?_append_left (by omega), List.getElem?_append_left (by omega)]
  ·rw [List.getElem?_append_right (by simp; omega), List.getElem?_append_right (by omega), List.getElem?_drop, List.getElem?_drop]
   congr 2
   simp
   omega
theorem ShV.keep {steps : List (Int × Int)} {shv : Value} {F : Nat → Prop} {w w' : World} {s : RSt} (h : ShV steps shv F w s) (hk : ∀ b, F b → w'.heap[b]? = w.heap[b]?) : ShV steps shv F w' s := by
 rcases h with h | ⟨G, c, cs, h1, h2, h3, h4, h5, h6⟩
 ·exact .inl h
 ·exact .inr ⟨G, c, cs, h1, h2, h3, h4, by rw [hk G ((h2 G).2 rfl)]; exact h5, h6⟩
theorem ShV.below {steps : List (Int × Int)} {shv : Value} {F : Nat → Prop} {w w' : World} {s : RSt} (h : ShV steps shv F w s) (hb : Below w.heap.size w w') : ShV steps shv F w' s :=
 h.keep fun b hF => by
  rcases h with h | ⟨G, c, cs, h1, h2, h3, h4, h5, h6⟩
  ·exact absurd hF (h.2 b)
  ·rw [(h2 b).1 hF]; exact hb.block G (lt_of_heap h5)
theorem ShV.lt {steps : List (Int × Int)} {shv : Value} {F : Nat → Prop} {w : World} {s : RSt} (h : ShV steps shv F w s) {b : Nat} (hF : F b) : b < w.heap.size := by
 rcases h with h | ⟨G, c, cs, h1, h2, h3, h4, h5, h6⟩
 ·exact absurd hF (h.2 b)
 ·rw [(h2 b).1 hF]; exact lt_of_heap h5
theorem ShV.open {steps : List (Int × Int)} {shv : Value} {F : Nat → Prop} {w : World} {s : RSt} (h : ShV steps shv F w s) (hl : s.1 < steps.length) : ShV steps shv F w (s.1 + 1, s.2 ++ [gets steps s.1]) := by
 rcases h with h | ⟨G, c, cs, h1, h2, h3, h4, h5, h6, h7⟩
 ·exact .inl h
 ·refine .inr ⟨G, c, cs, h1, h2, h3, h4, h5, h6, fun k hk => ?_⟩
  have := h7 k hk
  rw [← cur_open hl] at this
  exact this
def SrPost (steps : List (Int × Int)) (shv : Value) (F : Nat → Prop) (W : World) (r : RSt × Bool) (e : Ending) (w' : World) : Prop :=
 e = .returned (.tuple #[.int .i64 (r.1.1 : Int), .bool r.2]) ∧ ShV steps shv F w' r.1 ∧ Chg F W w'
structure SrAsk (m : Mk) (t : List (List Int)) (tv sv : Value) (steps : List (Int × Int)) (cuts : List (List Int)) (cv shv : Value) (F : Nat → Prop) (s : RSt) (W : World) : Prop where
 sh : ShV steps shv F W s
 rd : RdOk steps s
 ht : V2 (fun b => ¬ F b) W tv t
 hs : VS (fun b => ¬ F b) W sv steps
 hc : V2 (fun b => ¬ F b) W cv cuts
 hp : cuts = [] → PV cv
 ok : PartOk m t cuts
 lt : cuts.length < t.length
def SrAny (m : Mk) (t : List (List Int)) (tv sv : Value) (steps : List (Int × Int)) (shv : Value) (F : Nat → Prop) (d n : Nat) : Prop :=
 ∀ (cuts : List (List Int)) (cv : Value) (s : RSt) (W : World), cuts.length + d = t.length → SrAsk m t tv sv steps cuts cv shv F s W →
   Calls Tryz.prog 36 #[.agg #[.int .i64 m.c, .int .i64 m.d, .int .i64 m.s, .int .i64 m.e, .int .i64 m.l, tv], cv, sv, .int .i64 (s.1 : Int), shv] W (SrPost steps shv F W (readF n t (keysOf m) steps d cuts s))
theorem own_V2R {S : Nat → Prop} {w : World} {B : Nat} {e : TypeId} {v : Value} {n : Nat} {vs : List Value} {ls : List (List Int)} (h : w.ownsRow B e 1 v n vs) (hr : RowVs S w vs ls) : V2 (fun b => S b ∨ B ≤ b) w v ls := by
 obtain ⟨hl, h⟩ := h
 have hn : n = ls.length := by have := hr.1; omega
 subst hn
 rcases h with ⟨rfl, h0⟩ | ⟨g, cap, cur, rfl, hb, hh, hc, hm, hs, ht⟩
 ·exact ⟨none, 0, by rw [h0], by omega, Nat.zero_le _, fun k hk => by omega⟩
 ·refine ⟨_, _, rfl, hc, hm, fun k hk => ?_⟩
  obtain ⟨ev, h1, h2⟩ := hr.2 k hk
  refine ⟨g, 0, ev, rfl, .inr hb, ?_, h2.mono (fun b hb _ => .inl hb) (fun _ _ _ => rfl)⟩
  have h3 : (cur.toList.take (ls.length * 1))[k]? = vs[k]? := by rw [ht]
  rw [List.getElem?_take, if_pos (by omega), h1] at h3
  rw [cell_of_block hh, Nat.zero_add, ← Array.getElem?_toList, h3]
theorem toCome_nextR {m : Mk} {w : World} {kv : Value} {S : Nat → Prop} {L r : List (List Int)} (hc : 0 ≤ m.c) (h : (nextAns r).2 = true → V1 S w kv (nextAns r).1) (hL : keysOf m = L ++ r) : toCome m w kv (.bool (nextAns r).2) ≤ r.length := by
 cases r with
 | nil => rw [show (nextAns []).2 = false from rfl, toCome_last]; exact Nat.zero_le _
 | cons k r =>
   have h1 : V1 S w kv k := h rfl
   rw [show (nextAns (k :: r)).2 = true from rfl, toCome_more h1, keys_behind hc hL]
   exact Nat.le_refl _
theorem runL_stopat {σ α : Type} {f : σ → α → σ × Bool} {s st st' : σ} {L1 r : List α} {k : α} (h : runL f s L1 = (st, true)) (hk : f st k = (st', false)) : runL f s (L1 ++ k :: r) = (st', false) := by
 rw [runL_go f (by rw [h]), h]
 show runL f st (k :: r) = _
 unfold runL
 rw [hk]; simp
theorem runL_goat {σ α : Type} {f : σ → α → σ × Bool} {s st st' : σ} {L1 : List α} {k : α} (h : runL f s L1 = (st, true)) (hk : f st k = (st', true)) : runL f s (L1 ++ [k]) = (st', true) := by
 rw [runL_go f (by rw [h]), h, runL_one, hk]
set_option maxRecDepth 100000 in
set_option maxHeartbeats 4000000 in
theorem l19Read_any (m : Mk) (t : List (List Int)) (n : Nat) (hn : (n : Int) = m.c) (steps : List (Int × Int)) (hsl : steps.length ≤ 1200) (tv sv shv : Value) (F : Nat → Prop) : ∀ d, SrAny m t tv sv steps shv F d n := by
 intro d
 induction d with
 | zero => intro cuts cv s W hcd ask; have := ask.lt; omega
 | succ d ih =>
   intro cuts cv s W hcd ask
   obtain ⟨hsh, hrd, ht, hs, hc, hcp, hok, hlt⟩ := ask
   have hok' := hok.fits.ok
   have hmk := Mk.ok_iff.1 hok'
   have hc0 : 0 ≤ m.c := by omega
   obtain ⟨ta, tc, rfl, htm⟩ := ht.form
   obtain ⟨sa, sc, rfl, hsm⟩ := hs.form
   obtain ⟨ca, cc, rfl, hcm⟩ := hc.form
   have hkey : ∀ k, k ∈ keysOf m → isKeyB m k = true ∧ (k.length : Int) = m.c ∧ ∀ i, i < k.length → 0 ≤ geti k i ∧ geti k i ≤ 7 := fun k hk => by
    have h0 := (mem_keysOf hc0).1 hk
    have h1 := isKey_iff.1 h0
    refine ⟨h0, by omega, fun i hi => ?_⟩
    have := h1.2.1 _ (geti_mem hi)
    omega
   obtain ⟨W1, hW1, hB01, hz01, HZ01, hc01, hh01⟩ := box_facts W #[.int .i64 m.c, .int .i64 m.d, .int .i64 m.s, .int .i64 m.e, .int .i64 m.l, .slice ta t.length tc] 35
   have hfirst := l02First_any m hok' m.c.toNat (fun _ => False) (.slice none 0 0) []
   rw [genB_nil] at hfirst
   have hcc : ((m.c.toNat : Nat) : Int) = m.c := by omega
   obtain ⟨f, hf⟩ : ∃ f, f = rdStep n t steps (readF n t (keysOf m) steps d) cuts := ⟨_, rfl⟩
   have hFW : ∀ b, F b → b < W.heap.size := fun b hb => hsh.lt hb
   have hne : ((cuts.length : Int) == (t.length : Int)) = false := by rw [beq_eq_false_iff_ne]; omega
   have htN := ht.mono (S' := fun b => ¬ F b ∧ b < W.heap.size) (fun b h1 h2 => ⟨h1, h2⟩) (fun _ _ _ => rfl)
   have hsN := hs.mono (S' := fun b => ¬ F b ∧ b < W.heap.size) (fun b h1 h2 => ⟨h1, h2⟩) (fun _ _ _ => rfl)
   have hcN := hc.mono (S' := fun b => ¬ F b ∧ b < W.heap.size) (fun b h1 h2 => ⟨h1, h2⟩) (fun _ _ _ => rfl)
   have Hfirst := Lib.hid (And.intro hfirst hcc); clear hfirst hcc
   have Hkey := Lib.hid hkey; clear hkey
   have HA := Lib.hid (And.intro hsh (And.intro hrd (And.intro htN (And.intro hsN (And.intro hcN (And.intro hcp (And.intro hok (And.intro ih (And.intro hn (And.intro hok' (And.intro hFW (And.intro hc0 hmk)))))))))))); clear hsh hrd htN hsN hcN ht hs hc hcp hok ih hok' hFW hmk hc0
   clear hh01
   go_enter Tryz.func36, Tryz.ntmps36
   go_wp2_with fail
   rw [← hW1]
   refine (Hfirst.out.1 _ ⟨none, 0, rfl, Nat.le_refl _, Nat.zero_le _, fun k hk => by simp at hk⟩ (fun _ => .inl rfl) (by have := Hfirst.out.2; simp; omega) (fun k hk => by simp at hk)).mono ?_
   rintro e' wF ⟨kv, rfl, hkv, hbF⟩
   have hkv0 : (nextAns (keysOf m)).2 = true → V1 (fun b => ¬ F b) wF kv (nextAns (keysOf m)).1 := fun hh => (hkv hh).mono (fun b h1 h2 hf => by
    have := HA.out.2.2.2.2.2.2.2.2.2.2.1 b hf
    rcases h1 with h1 | h1
    ·exact h1.elim
    ·omega) (fun _ _ _ => rfl)
   have hzF := hbF.size
   have hBF := hB01.trans (hbF.mono (by omega))
   have HI := Lib.hid (And.intro hkv0 (And.intro (HA.out.1.below hBF) (And.intro hbF hBF))); clear hkv0 hkv
   have hxF : ∀ o, wF.cell? ⟨W.heap.size, o, none⟩ = (#[.int .i64 m.c, .int .i64 m.d, .int .i64 m.s, .int .i64 m.e, .int .i64 m.l, .slice ta t.length tc] : Array Value)[o]? := fun o => by rw [(bcell hbF).1 _ _ hz01, hc01]
   clear hbF hBF
   go_wp2_with fail
   go_loopw [3, 12, 13, 14, 15, 16, 17, 18, 19, 50, 80] (fun atv kv okv _ _ _ _ _ _ _ _ wr => ∃ (L1 L2 : List (List Int)) (st : RSt), keysOf m = L1 ++ L2 ∧ runL f s L1 = (st, true) ∧ atv = .int .i64 (st.1 : Int) ∧ okv = .bool (nextAns L2).2 ∧ ((nextAns L2).2 = true → V1 (fun b => ¬ F b) wr kv (nextAns L2).1) ∧ ShV steps shv F wr st ∧ RdOk steps st ∧ Chg F W wr ∧ Chg F W1 wr) (fun atv kv okv _ _ _ _ _ _ _ _ wr => toCome m wr kv okv)
   case atStart => exact ⟨[], keysOf m, s, rfl, rfl, rfl, rfl, HI.out.1, HI.out.2.1, HA.out.2.1, Chg.of_below HI.out.2.2.2, Chg.of_below HI.out.2.2.1⟩
   case round =>
    obtain ⟨L1, L2, st, hL, hrun, rfl, hokv, hkv, hsh, hrdk, hch, hch1⟩ := hrel
    have hzr := hch.size
    have hzr1 := hch1.size
    have hz1' := HZ01.out
    cases L2 with
    | nil =>
      rw [List.append_nil] at hL
      have hokv' : _ = Value.bool false := hokv
      subst hokv'
      have hres : readF n t (keysOf m) steps (d + 1) cuts s = (st, true) := by
       show runL (rdStep n t steps (readF n t (keysOf m) steps d) cuts) s (keysOf m) = _
       rw [← hf, hL]; exact hrun
      have HZ := Lib.hid (And.intro hres (And.intro hsh hch)); clear hres hsh hkv hch hch1 hrun hL
      go_wp2_with fail
      go_ret2
      (try rw [HZ.out.1])
      exact ⟨rfl, HZ.out.2.1, HZ.out.2.2⟩
    | cons k r =>
      have hokv' : _ = Value.bool true := hokv
      subst hokv'
      have hk1 := hkv rfl
      have hk1' : V1 (fun b => ¬ F b) wr _ k := hk1
      obtain ⟨hkk, hkc, hkr⟩ := Hkey.out k (by rw [hL]; simp)
      have hbeh := keys_behind HA.out.2.2.2.2.2.2.2.2.2.2.2.1 hL
      obtain ⟨ka, kc, rfl, hkm⟩ := hk1'.form
      have hL' : keysOf m = (L1 ++ [k]) ++ r := by rw [hL]; simp
      have HL := Lib.hid (And.intro hL (And.intro hrun hL')); clear hL hrun hL'
      have HK := Lib.hid (And.intro hk1' (And.intro hkc (And.intro hkr (And.intro hbeh (And.intro hch hch1))))); clear hkv hk1 hk1' hkc hkr hbeh hch hch1
      have hok := HA.out.2.2.2.2.2.2.1
      by_cases hA : st.1 = steps.length
      ·have e1 : ((st.1 : Int) == (steps.length : Int)) = true := by simp [hA]
       have hst : f st k = (st, false) := by rw [hf]; unfold rdStep; rw [if_pos hA]
       have hres : readF n t (keysOf m) steps (d + 1) cuts s = (st, false) := by
        show runL (rdStep n t steps (readF n t (keysOf m) steps d) cuts) s (keysOf m) = _
        rw [← hf, HL.out.1]
        exact runL_stopat HL.out.2.1 hst
       have HZ := Lib.hid (And.intro hres (And.intro hsh HK.out.2.2.2.2.1)); clear hres
       go_wp2_with fail
       go_ret2
       (try rw [HZ.out.1])
       exact ⟨rfl, HZ.out.2.1, HZ.out.2.2⟩
      ·have hlts : st.1 < steps.length := by have := hrdk.1; omega
       have e1 : ((st.1 : Int) == (steps.length : Int)) = false := by rw [beq_eq_false_iff_ne]; omega
       obtain ⟨x, hx⟩ : ∃ x, gets steps st.1 = x := ⟨_, rfl⟩
       have hkpr : Keep (fun b => ¬ F b ∧ b < W.heap.size) W wr := HK.out.2.2.2.2.1.keep fun b hb => hb.1
       have hsr := HA.out.2.2.2.1.mono (S' := fun b => ¬ F b ∧ b < W.heap.size) (fun _ h _ => h) hkpr
       have htr := HA.out.2.2.1.mono (S' := fun b => ¬ F b ∧ b < W.heap.size) (fun _ h _ => h) hkpr
       have hcr := HA.out.2.2.2.2.1.mono (S' := fun b => ¬ F b ∧ b < W.heap.size) (fun _ h _ => h) hkpr
       obtain ⟨bs, offs, rfl, hbs, hcs1, hcs2⟩ := hsr.cell hlts
       rw [hx] at hcs1 hcs2
       have hsti : (st.1 : Int) < (steps.length : Int) := by omega
       have hsti0 : (0 : Int) ≤ (st.1 : Int) := by omega
       have hcl : cuts.length ≤ 1000000 := by have := hok.fits.rows; omega
       have hxr : ∀ o, wr.cell? ⟨W.heap.size, o, none⟩ = (#[.int .i64 m.c, .int .i64 m.d, .int .i64 m.s, .int .i64 m.e, .int .i64 m.l, .slice ta t.length tc] : Array Value)[o]? := fun o => by rw [HK.out.2.2.2.2.2.cell hz01 (fun hf => Nat.lt_irrefl _ (HA.out.2.2.2.2.2.2.2.2.2.2.1 _ hf)), hc01]
       have HS := Lib.hid (And.intro hsh (And.intro hrdk (And.intro htr (And.intro hsr (And.intro hx hA))))); clear hsh hrdk htr hx hA
       go_wp2_with fail
       refine (l16With_any _ _ cuts k _ hcr HA.out.2.2.2.2.2.1 HK.out.1 hcl).mono ?_
       rintro e' w5 ⟨nv, nvs, rfl, hown, hrv, hb5⟩
       have hN := own_V2R hown hrv
       obtain ⟨na, nc, rfl, hnm⟩ := hN.form
       have hz5 := hb5.size
       have c1 := cell_keep hcs1 (hb5.block _ (lt_of_cell hcs1))
       have c2 := cell_keep hcs2 (hb5.block _ (lt_of_cell hcs2))
       have hx5 : ∀ o, w5.cell? ⟨W.heap.size, o, none⟩ = (#[.int .i64 m.c, .int .i64 m.d, .int .i64 m.s, .int .i64 m.e, .int .i64 m.l, .slice ta t.length tc] : Array Value)[o]? := fun o => by rw [(bcell hb5).1 _ _ (by omega), hxr]
       have hbo := fun o => hb5.trans ((Below.refl w5.heap.size w5).alloc (Nat.le_refl _) o |>.mono hz5)
       have c1a := fun o => cell_keep hcs1 ((hbo o).block _ (lt_of_cell hcs1))
       have c2a := fun o => cell_keep hcs2 ((hbo o).block _ (lt_of_cell hcs2))
       have hx5a : ∀ o1 o, (w5.alloc o1).cell? ⟨W.heap.size, o, none⟩ = (#[.int .i64 m.c, .int .i64 m.d, .int .i64 m.s, .int .i64 m.e, .int .i64 m.l, .slice ta t.length tc] : Array Value)[o]? := fun o1 o => by rw [(bcell (hbo o1)).1 _ _ (by omega), hxr]
       have hnl : (cuts ++ [k]).length = cuts.length + 1 := by simp
       rw [hnl] at hN
       have hbX : Below wr.heap.size wr (w5.alloc (.cells #[.int .i64 x.1, .int .i64 x.2] 48)) := hbo _
       have hX : ∀ o, (w5.alloc (.cells #[.int .i64 x.1, .int .i64 x.2] 48)).cell? ⟨w5.heap.size, o, none⟩ = (#[.int .i64 x.1, .int .i64 x.2] : Array Value)[o]? := fun o => cell_of_block (heap_alloc_self _ _) o
       have hzX : (w5.alloc (.cells #[.int .i64 x.1, .int .i64 x.2] 48)).heap.size = w5.heap.size + 1 := by simp
       have hfal := l15False_any m (.slice ta t.length tc) (.slice na (cuts.length + 1) nc) t (cuts ++ [k]) n (w5.alloc (.cells #[.int .i64 x.1, .int .i64 x.2] 48)) (hok.more hlt hkk).fits HA.out.2.2.2.2.2.2.2.2.1 (HS.out.2.2.1.below hbX) (hN.below ((Below.refl _ _).alloc (Nat.le_refl _) _))
       have hget := fun (hk : (falseL n t (cuts ++ [k])).length - 1 < (falseL n t (cuts ++ [k])).length) => falseL_get hk
       have hstep : f st k = (if openS x = true then (if cuts.length + 1 < t.length then readF n t (keysOf m) steps d (cuts ++ [k]) (st.1 + 1, st.2 ++ [x]) else (st, false)) else if hasL (falseL n t (cuts ++ [k])) [x.1, x.2] = true then ((st.1 + 1, st.2 ++ [lastStep (falseL n t (cuts ++ [k]))]), true) else (st, false)) := by
        rw [hf]; unfold rdStep; rw [if_neg HS.out.2.2.2.2.2, HS.out.2.2.2.2.1]
       obtain ⟨LL, hLL⟩ : ∃ L, falseL n t (cuts ++ [k]) = L := ⟨_, rfl⟩
       rw [hLL] at hfal hget hstep
       have HN := Lib.hid (And.intro hN (And.intro hb5 (And.intro hbX (And.intro hfal (And.intro hget hstep))))); clear hfal hget hstep hLL hN hb5 hbX hnl hbo
       clear hown hrv hcr hcs1 hcs2 hxr
       go_wp2_with fail
       refine HN.out.2.2.2.1.mono ?_
       rintro e' w6 ⟨lv, rfl, hF6, hb6⟩
       obtain ⟨la, lc, rfl, hlm⟩ := hF6.v2.form
       have hb06 := HN.out.2.2.1.trans (hb6.mono HN.out.2.2.1.size)
       have hz6 := hb6.size
       have X0 : w6.cell? ⟨w5.heap.size, 0, none⟩ = some (.int .i64 x.1) := cell_keep (hX 0) (hb6.block _ (by omega))
       have X1 : w6.cell? ⟨w5.heap.size, 1, none⟩ = some (.int .i64 x.2) := cell_keep (hX 1) (hb6.block _ (by omega))
       have hx6 : ∀ o, w6.cell? ⟨W.heap.size, o, none⟩ = (#[.int .i64 m.c, .int .i64 m.d, .int .i64 m.s, .int .i64 m.e, .int .i64 m.l, .slice ta t.length tc] : Array Value)[o]? := fun o => by rw [(bcell hb6).1 _ _ (by omega), hx5a]
       have HF6 := Lib.hid (And.intro hF6 hb06);
       have H56 := Lib.hid hb6
       clear hF6 hx5 hx5a c1 c2 c1a c2a hX hb6
       obtain ⟨b1, hb1⟩ : ∃ b, (x.1 == (-1 : Int)) = b := ⟨_, rfl⟩
       obtain ⟨b2, hb2⟩ : ∃ b, (x.2 == (0 : Int)) = b := ⟨_, rfl⟩
       have hopn : openS x = (b1 && b2) := by unfold openS; rw [hb1, hb2]
       have Hopn := Lib.hid (And.intro hopn (And.intro hb1 hb2)); clear hopn
       have hCr6 : Chg F wr w6 := Chg.of_below HF6.out.2
       cases b1 <;> cases b2
       ·skip
        have hno : openS x = false := by rw [Hopn.out.1]; rfl
        have hstep := HN.out.2.2.2.2.2
        rw [if_neg (by rw [hno]; decide)] at hstep
        clear hno
        cases hh : hasL LL [x.1, x.2]
        ·rw [if_neg (by rw [hh]; decide)] at hstep
         have Hh := Lib.hid (And.intro hh hstep); clear hh hstep
         go_wp2_with fail
         refine (l19Pair_b _ LL x _ _ Hh.out.1 HF6.out.1.v2).mono ?_
         rintro e' w7 ⟨rfl, hb7⟩
         have hCf := (HK.out.2.2.2.2.1.trans hCr6 (fun i hi => .inl hi)).then_below hb7
         have hsh7 := (HS.out.1.below HF6.out.2).below hb7
         have hst := Hh.out.2
         have hres : readF n t (keysOf m) steps (d + 1) cuts s = (st, false) := by
          show runL (rdStep n t steps (readF n t (keysOf m) steps d) cuts) s (keysOf m) = _
          rw [← hf, HL.out.1]
          exact runL_stopat HL.out.2.1 hst
         have HZ := Lib.hid (And.intro hres (And.intro hsh7 hCf)); clear hres
         go_wp2_with fail
         go_ret2
         (try rw [HZ.out.1])
         exact ⟨rfl, HZ.out.2.1, HZ.out.2.2⟩
        ·rw [if_pos hh] at hstep
         have hLpos : 0 < LL.length := by
          rcases Nat.eq_zero_or_pos LL.length with h0 | h0
          ·rw [List.length_eq_zero_iff.1 h0] at hh; simp [hasL] at hh
          ·exact h0
         obtain ⟨fi, fd, _, _, hrow, _, _⟩ := HN.out.2.2.2.2.1 (by omega)
         obtain ⟨y, hy⟩ : ∃ y, lastStep LL = y := ⟨_, rfl⟩
         rw [hy] at hstep
         have hy1 : y = ((fi : Int), (fd : Int)) := by rw [← hy]; unfold lastStep; rw [hrow]; rfl
         have hrd2 : RdOk steps (st.1 + 1, st.2 ++ [y]) := ⟨by show st.1 + 1 ≤ _; omega, by show (st.2 ++ [y]).length = st.1 + 1; rw [List.length_append, HS.out.2.1.2]; rfl⟩
         have Hh := Lib.hid (And.intro hh (And.intro hstep (And.intro hrow (And.intro hy1 hrd2)))); clear hh hstep hrow hy hy1 hrd2
         have hwr : IntKind.i64.wrap ((st.1 : Int) + 1) = (st.1 : Int) + 1 := IntWalk.i64_in _ (by omega)
         go_wp2_with fail
         refine (l19Pair_b _ LL x _ _ Hh.out.1 HF6.out.1.v2).mono ?_
         rintro e' w7 ⟨rfl, hb7⟩
         have hC7 := hCr6.then_below hb7
         have hst := Hh.out.2.1
         have hz7 := hb7.size
         have hsh0 := (HS.out.1.below HF6.out.2).below hb7
         rcases hsh0 with ⟨rfl, hF0⟩ | ⟨G, gc, cs, rfl, hG1, hG2, hG3, hG4, hG5, hG6⟩
         ·have hsh7 : ShV steps (.slice none 0 0) F w7 (st.1 + 1, st.2 ++ [y]) := .inl ⟨rfl, hF0⟩
          have hng : ¬ (st.1 : Int) < 0 := by omega
          have hkz : V1 (fun b => ¬ F b) w7 (.slice ka k.length kc) k := HK.out.1.mono (fun b h _ => h) (hC7.keep fun b h => h)
          have hxz : ∀ o, w7.cell? ⟨W.heap.size, o, none⟩ = (#[.int .i64 m.c, .int .i64 m.d, .int .i64 m.s, .int .i64 m.e, .int .i64 m.l, .slice ta t.length tc] : Array Value)[o]? := fun o => by rw [(HK.out.2.2.2.2.2.trans hC7 (fun i hi => .inl hi)).cell hz01 (fun hf => Nat.lt_irrefl _ (HA.out.2.2.2.2.2.2.2.2.2.2.1 _ hf)), hc01]
          have hzz := hC7.size
          have HZ := Lib.hid (And.intro hsh7 (And.intro Hh.out.2.2.2.2 (And.intro hC7 (runL_goat HL.out.2.1 hst)))); clear hsh7 hC7 hst hb7 hF0
          go_wp2_with fail
          refine (l02Next_any m HA.out.2.2.2.2.2.2.2.2.2.1 _ k _ hkz HK.out.2.1 HK.out.2.2.1).mono ?_
          rintro e' wM ⟨kv', he', hkv', hbM⟩
          rw [HK.out.2.2.2.1] at he' hkv'
          subst he'
          have hkv2 : (nextAns r).2 = true → V1 (fun b => ¬ F b) wM kv' (nextAns r).1 := fun hh => (hkv' hh).mono (fun b h1 h2 hf => by
           have := HA.out.2.2.2.2.2.2.2.2.2.2.1 b hf
           rcases h1 with h1 | h1
           ·exact h1.elim
           ·omega) (fun _ _ _ => rfl)
          have HM := Lib.hid (And.intro hkv2 (And.intro (toCome_nextR HA.out.2.2.2.2.2.2.2.2.2.2.2.1 hkv2 HL.out.2.2) (toCome_more (m := m) HK.out.1))); clear hkv' hkv2 hxz
          obtain ⟨qb, hqb⟩ : ∃ qb, (nextAns r).2 = qb := ⟨_, rfl⟩
          rw [hqb]
          have Hqb := Lib.hid hqb; clear hqb
          go_wp2_with fail
          go_roundw
          case rel => exact ⟨L1 ++ [k], r, (st.1 + 1, st.2 ++ [y]), HL.out.2.2, HZ.out.2.2.2, by go_num, by rw [Hqb.out], HM.out.1, HZ.out.1.below hbM, HZ.out.2.1, (HK.out.2.2.2.2.1.trans HZ.out.2.2.1 (fun i hi => .inl hi)).then_below hbM, (HK.out.2.2.2.2.2.trans HZ.out.2.2.1 (fun i hi => .inl hi)).then_below hbM⟩
          case measure => rw [HM.out.2.2, HK.out.2.2.2.1]; have := HM.out.2.1; rw [Hqb.out] at this; omega
         ·have hF7 := HF6.out.1.v2.below hb7
          obtain ⟨b4, off4, a4, c4, rfl, hS4, hc4, hr4⟩ := hF7.cell (show LL.length - 1 < LL.length by omega)
          rw [Hh.out.2.2.1] at hc4 hr4
          obtain ⟨b5, off5, rfl, hS5, hc5⟩ := hr4.cell (k := 0) (by simp)
          obtain ⟨b6, off6, e6, _, hc6⟩ := hr4.cell (k := 1) (by simp)
          obtain ⟨rfl, rfl⟩ : b5 = b6 ∧ off5 = off6 := by simpa using e6
          simp only [geti, List.getD_cons_zero, List.getD_cons_succ, List.length_cons, List.length_nil, Nat.add_zero, Nat.zero_add] at hc4 hc5 hc6
          have hye1 : ((fi : Int)) = y.1 := by rw [Hh.out.2.2.2.1]
          have hye2 : ((fd : Int)) = y.2 := by rw [Hh.out.2.2.2.1]
          rw [hye1] at hc5
          rw [hye2] at hc6
          have hwl : IntKind.i64.wrap ((LL.length : Int) - 1) = ((LL.length - 1 : Nat) : Int) := by rw [IntWalk.i64_in _ (by omega)]; omega
          have hli : ((LL.length - 1 : Nat) : Int) < (LL.length : Int) := by omega
          obtain ⟨u0, hco⟩ : ∃ u0, w7.cell? ⟨G, st.1 * 2, none⟩ = some u0 := ⟨cs[st.1 * 2]'(by omega), by rw [cell_of_block hG4]; exact Array.getElem?_eq_getElem (by omega)⟩
          obtain ⟨u1, hco1⟩ : ∃ u1, w7.cell? ⟨G, st.1 * 2 + 1, none⟩ = some u1 := ⟨cs[st.1 * 2 + 1]'(by omega), by rw [cell_of_block hG4]; exact Array.getElem?_eq_getElem (by omega)⟩
          have hfo := frozen_of_block hG4 (st.1 * 2)
          have hfo1 := frozen_of_block hG4 (st.1 * 2 + 1)
          have HG := Lib.hid (And.intro hG1 (And.intro hG2 (And.intro hG3 (And.intro hG4 (And.intro hG5 hG6))))); clear hG1 hG2 hG3 hG4 hG5 hG6 hF7 hr4 e6
          go_wp2_with fail
          go_region
          obtain ⟨w8, hw8⟩ : ∃ w8, ((w7.setCell ⟨G, st.1 * 2, none⟩ (.int .i64 y.1)).setCell ⟨G, st.1 * 2 + 1, none⟩ (.int .i64 y.2)).drew = w8 := ⟨_, rfl⟩
          rw [hw8]
          have hC8 : Chg F wr w8 := by rw [← hw8]; exact ((hC7.setCell (p := ⟨G, st.1 * 2, none⟩) (.inl ((HG.out.1 G).2 rfl)) _).setCell (p := ⟨G, st.1 * 2 + 1, none⟩) (.inl ((HG.out.1 G).2 rfl)) _).drew
          have hsh8 : ShV steps (.slice (some ⟨G, 0, none⟩) steps.length gc) F w8 (st.1 + 1, st.2 ++ [y]) := by
           refine .inr ⟨G, gc, _, rfl, HG.out.1, HG.out.2.1, HG.out.2.2.1, by rw [← hw8]; exact heap_setCell_self (heap_setCell_self HG.out.2.2.2.1 _) _, by simp; exact HG.out.2.2.2.2.1, fun j hj => ?_⟩
           have h5 := HG.out.2.2.2.2.1
           have h6 := HG.out.2.2.2.2.2 j hj
           show _ = some (Value.int .i64 (gets ((st.2 ++ [y]) ++ steps.drop (st.1 + 1)) j).1) ∧ _ = some (Value.int .i64 (gets ((st.2 ++ [y]) ++ steps.drop (st.1 + 1)) j).2)
           rw [cur_set HS.out.2.1 hlts]
           by_cases e : j = st.1
           ·subst e
            rw [if_pos rfl]
            exact ⟨by rw [Array.getElem?_setIfInBounds, if_neg (by omega), Array.getElem?_setIfInBounds, if_pos rfl, if_pos (by omega)], by rw [Array.getElem?_setIfInBounds, if_pos rfl, if_pos (by simp; omega)]⟩
           ·rw [if_neg e]
            exact ⟨by rw [Array.getElem?_setIfInBounds, if_neg (by omega), Array.getElem?_setIfInBounds, if_neg (by omega)]; exact h6.1, by rw [Array.getElem?_setIfInBounds, if_neg (by omega), Array.getElem?_setIfInBounds, if_neg (by omega)]; exact h6.2⟩
          have hkz : V1 (fun b => ¬ F b) w8 (.slice ka k.length kc) k := HK.out.1.mono (fun b h _ => h) (hC8.keep fun b h => h)
          have hxz : ∀ o, w8.cell? ⟨W.heap.size, o, none⟩ = (#[.int .i64 m.c, .int .i64 m.d, .int .i64 m.s, .int .i64 m.e, .int .i64 m.l, .slice ta t.length tc] : Array Value)[o]? := fun o => by rw [(HK.out.2.2.2.2.2.trans hC8 (fun i hi => .inl hi)).cell hz01 (fun hf => Nat.lt_irrefl _ (HA.out.2.2.2.2.2.2.2.2.2.2.1 _ hf)), hc01]
          have hzz := hC8.size
          have HZ := Lib.hid (And.intro hsh8 (And.intro Hh.out.2.2.2.2 (And.intro hC8 (runL_goat HL.out.2.1 hst)))); clear hsh8 hC8 hst hb7 hw8 hC7
          go_wp2_with fail
          refine (l02Next_any m HA.out.2.2.2.2.2.2.2.2.2.1 _ k _ hkz HK.out.2.1 HK.out.2.2.1).mono ?_
          rintro e' wM ⟨kv', he', hkv', hbM⟩
          rw [HK.out.2.2.2.1] at he' hkv'
          subst he'
          have hkv2 : (nextAns r).2 = true → V1 (fun b => ¬ F b) wM kv' (nextAns r).1 := fun hh => (hkv' hh).mono (fun b h1 h2 hf => by
           have := HA.out.2.2.2.2.2.2.2.2.2.2.1 b hf
           rcases h1 with h1 | h1
           ·exact h1.elim
           ·omega) (fun _ _ _ => rfl)
          have HM := Lib.hid (And.intro hkv2 (And.intro (toCome_nextR HA.out.2.2.2.2.2.2.2.2.2.2.2.1 hkv2 HL.out.2.2) (toCome_more (m := m) HK.out.1))); clear hkv' hkv2 hxz
          obtain ⟨qb, hqb⟩ : ∃ qb, (nextAns r).2 = qb := ⟨_, rfl⟩
          rw [hqb]
          have Hqb := Lib.hid hqb; clear hqb
          go_wp2_with fail
          go_roundw
          case rel => exact ⟨L1 ++ [k], r, (st.1 + 1, st.2 ++ [y]), HL.out.2.2, HZ.out.2.2.2, by go_num, by rw [Hqb.out], HM.out.1, HZ.out.1.below hbM, HZ.out.2.1, (HK.out.2.2.2.2.1.trans HZ.out.2.2.1 (fun i hi => .inl hi)).then_below hbM, (HK.out.2.2.2.2.2.trans HZ.out.2.2.1 (fun i hi => .inl hi)).then_below hbM⟩
          case measure => rw [HM.out.2.2, HK.out.2.2.2.1]; have := HM.out.2.1; rw [Hqb.out] at this; omega
       ·skip
        have hno : openS x = false := by rw [Hopn.out.1]; rfl
        have hstep := HN.out.2.2.2.2.2
        rw [if_neg (by rw [hno]; decide)] at hstep
        clear hno
        cases hh : hasL LL [x.1, x.2]
        ·rw [if_neg (by rw [hh]; decide)] at hstep
         have Hh := Lib.hid (And.intro hh hstep); clear hh hstep
         go_wp2_with fail
         refine (l19Pair_b _ LL x _ _ Hh.out.1 HF6.out.1.v2).mono ?_
         rintro e' w7 ⟨rfl, hb7⟩
         have hCf := (HK.out.2.2.2.2.1.trans hCr6 (fun i hi => .inl hi)).then_below hb7
         have hsh7 := (HS.out.1.below HF6.out.2).below hb7
         have hst := Hh.out.2
         have hres : readF n t (keysOf m) steps (d + 1) cuts s = (st, false) := by
          show runL (rdStep n t steps (readF n t (keysOf m) steps d) cuts) s (keysOf m) = _
          rw [← hf, HL.out.1]
          exact runL_stopat HL.out.2.1 hst
         have HZ := Lib.hid (And.intro hres (And.intro hsh7 hCf)); clear hres
         go_wp2_with fail
         go_ret2
         (try rw [HZ.out.1])
         exact ⟨rfl, HZ.out.2.1, HZ.out.2.2⟩
        ·rw [if_pos hh] at hstep
         have hLpos : 0 < LL.length := by
          rcases Nat.eq_zero_or_pos LL.length with h0 | h0
          ·rw [List.length_eq_zero_iff.1 h0] at hh; simp [hasL] at hh
          ·exact h0
         obtain ⟨fi, fd, _, _, hrow, _, _⟩ := HN.out.2.2.2.2.1 (by omega)
         obtain ⟨y, hy⟩ : ∃ y, lastStep LL = y := ⟨_, rfl⟩
         rw [hy] at hstep
         have hy1 : y = ((fi : Int), (fd : Int)) := by rw [← hy]; unfold lastStep; rw [hrow]; rfl
         have hrd2 : RdOk steps (st.1 + 1, st.2 ++ [y]) := ⟨by show st.1 + 1 ≤ _; omega, by show (st.2 ++ [y]).length = st.1 + 1; rw [List.length_append, HS.out.2.1.2]; rfl⟩
         have Hh := Lib.hid (And.intro hh (And.intro hstep (And.intro hrow (And.intro hy1 hrd2)))); clear hh hstep hrow hy hy1 hrd2
         have hwr : IntKind.i64.wrap ((st.1 : Int) + 1) = (st.1 : Int) + 1 := IntWalk.i64_in _ (by omega)
         go_wp2_with fail
         refine (l19Pair_b _ LL x _ _ Hh.out.1 HF6.out.1.v2).mono ?_
         rintro e' w7 ⟨rfl, hb7⟩
         have hC7 := hCr6.then_below hb7
         have hst := Hh.out.2.1
         have hz7 := hb7.size
         have hsh0 := (HS.out.1.below HF6.out.2).below hb7
         rcases hsh0 with ⟨rfl, hF0⟩ | ⟨G, gc, cs, rfl, hG1, hG2, hG3, hG4, hG5, hG6⟩
         ·have hsh7 : ShV steps (.slice none 0 0) F w7 (st.1 + 1, st.2 ++ [y]) := .inl ⟨rfl, hF0⟩
          have hng : ¬ (st.1 : Int) < 0 := by omega
          have hkz : V1 (fun b => ¬ F b) w7 (.slice ka k.length kc) k := HK.out.1.mono (fun b h _ => h) (hC7.keep fun b h => h)
          have hxz : ∀ o, w7.cell? ⟨W.heap.size, o, none⟩ = (#[.int .i64 m.c, .int .i64 m.d, .int .i64 m.s, .int .i64 m.e, .int .i64 m.l, .slice ta t.length tc] : Array Value)[o]? := fun o => by rw [(HK.out.2.2.2.2.2.trans hC7 (fun i hi => .inl hi)).cell hz01 (fun hf => Nat.lt_irrefl _ (HA.out.2.2.2.2.2.2.2.2.2.2.1 _ hf)), hc01]
          have hzz := hC7.size
          have HZ := Lib.hid (And.intro hsh7 (And.intro Hh.out.2.2.2.2 (And.intro hC7 (runL_goat HL.out.2.1 hst)))); clear hsh7 hC7 hst hb7 hF0
          go_wp2_with fail
          refine (l02Next_any m HA.out.2.2.2.2.2.2.2.2.2.1 _ k _ hkz HK.out.2.1 HK.out.2.2.1).mono ?_
          rintro e' wM ⟨kv', he', hkv', hbM⟩
          rw [HK.out.2.2.2.1] at he' hkv'
          subst he'
          have hkv2 : (nextAns r).2 = true → V1 (fun b => ¬ F b) wM kv' (nextAns r).1 := fun hh => (hkv' hh).mono (fun b h1 h2 hf => by
           have := HA.out.2.2.2.2.2.2.2.2.2.2.1 b hf
           rcases h1 with h1 | h1
           ·exact h1.elim
           ·omega) (fun _ _ _ => rfl)
          have HM := Lib.hid (And.intro hkv2 (And.intro (toCome_nextR HA.out.2.2.2.2.2.2.2.2.2.2.2.1 hkv2 HL.out.2.2) (toCome_more (m := m) HK.out.1))); clear hkv' hkv2 hxz
          obtain ⟨qb, hqb⟩ : ∃ qb, (nextAns r).2 = qb := ⟨_, rfl⟩
          rw [hqb]
          have Hqb := Lib.hid hqb; clear hqb
          go_wp2_with fail
          go_roundw
          case rel => exact ⟨L1 ++ [k], r, (st.1 + 1, st.2 ++ [y]), HL.out.2.2, HZ.out.2.2.2, by go_num, by rw [Hqb.out], HM.out.1, HZ.out.1.below hbM, HZ.out.2.1, (HK.out.2.2.2.2.1.trans HZ.out.2.2.1 (fun i hi => .inl hi)).then_below hbM, (HK.out.2.2.2.2.2.trans HZ.out.2.2.1 (fun i hi => .inl hi)).then_below hbM⟩
          case measure => rw [HM.out.2.2, HK.out.2.2.2.1]; have := HM.out.2.1; rw [Hqb.out] at this; omega
         ·have hF7 := HF6.out.1.v2.below hb7
          obtain ⟨b4, off4, a4, c4, rfl, hS4, hc4, hr4⟩ := hF7.cell (show LL.length - 1 < LL.length by omega)
          rw [Hh.out.2.2.1] at hc4 hr4
          obtain ⟨b5, off5, rfl, hS5, hc5⟩ := hr4.cell (k := 0) (by simp)
          obtain ⟨b6, off6, e6, _, hc6⟩ := hr4.cell (k := 1) (by simp)
          obtain ⟨rfl, rfl⟩ : b5 = b6 ∧ off5 = off6 := by simpa using e6
          simp only [geti, List.getD_cons_zero, List.getD_cons_succ, List.length_cons, List.length_nil, Nat.add_zero, Nat.zero_add] at hc4 hc5 hc6
          have hye1 : ((fi : Int)) = y.1 := by rw [Hh.out.2.2.2.1]
          have hye2 : ((fd : Int)) = y.2 := by rw [Hh.out.2.2.2.1]
          rw [hye1] at hc5
          rw [hye2] at hc6
          have hwl : IntKind.i64.wrap ((LL.length : Int) - 1) = ((LL.length - 1 : Nat) : Int) := by rw [IntWalk.i64_in _ (by omega)]; omega
          have hli : ((LL.length - 1 : Nat) : Int) < (LL.length : Int) := by omega
          obtain ⟨u0, hco⟩ : ∃ u0, w7.cell? ⟨G, st.1 * 2, none⟩ = some u0 := ⟨cs[st.1 * 2]'(by omega), by rw [cell_of_block hG4]; exact Array.getElem?_eq_getElem (by omega)⟩
          obtain ⟨u1, hco1⟩ : ∃ u1, w7.cell? ⟨G, st.1 * 2 + 1, none⟩ = some u1 := ⟨cs[st.1 * 2 + 1]'(by omega), by rw [cell_of_block hG4]; exact Array.getElem?_eq_getElem (by omega)⟩
          have hfo := frozen_of_block hG4 (st.1 * 2)
          have hfo1 := frozen_of_block hG4 (st.1 * 2 + 1)
          have HG := Lib.hid (And.intro hG1 (And.intro hG2 (And.intro hG3 (And.intro hG4 (And.intro hG5 hG6))))); clear hG1 hG2 hG3 hG4 hG5 hG6 hF7 hr4 e6
          go_wp2_with fail
          go_region
          obtain ⟨w8, hw8⟩ : ∃ w8, ((w7.setCell ⟨G, st.1 * 2, none⟩ (.int .i64 y.1)).setCell ⟨G, st.1 * 2 + 1, none⟩ (.int .i64 y.2)).drew = w8 := ⟨_, rfl⟩
          rw [hw8]
          have hC8 : Chg F wr w8 := by rw [← hw8]; exact ((hC7.setCell (p := ⟨G, st.1 * 2, none⟩) (.inl ((HG.out.1 G).2 rfl)) _).setCell (p := ⟨G, st.1 * 2 + 1, none⟩) (.inl ((HG.out.1 G).2 rfl)) _).drew
          have hsh8 : ShV steps (.slice (some ⟨G, 0, none⟩) steps.length gc) F w8 (st.1 + 1, st.2 ++ [y]) := by
           refine .inr ⟨G, gc, _, rfl, HG.out.1, HG.out.2.1, HG.out.2.2.1, by rw [← hw8]; exact heap_setCell_self (heap_setCell_self HG.out.2.2.2.1 _) _, by simp; exact HG.out.2.2.2.2.1, fun j hj => ?_⟩
           have h5 := HG.out.2.2.2.2.1
           have h6 := HG.out.2.2.2.2.2 j hj
           show _ = some (Value.int .i64 (gets ((st.2 ++ [y]) ++ steps.drop (st.1 + 1)) j).1) ∧ _ = some (Value.int .i64 (gets ((st.2 ++ [y]) ++ steps.drop (st.1 + 1)) j).2)
           rw [cur_set HS.out.2.1 hlts]
           by_cases e : j = st.1
           ·subst e
            rw [if_pos rfl]
            exact ⟨by rw [Array.getElem?_setIfInBounds, if_neg (by omega), Array.getElem?_setIfInBounds, if_pos rfl, if_pos (by omega)], by rw [Array.getElem?_setIfInBounds, if_pos rfl, if_pos (by simp; omega)]⟩
           ·rw [if_neg e]
            exact ⟨by rw [Array.getElem?_setIfInBounds, if_neg (by omega), Array.getElem?_setIfInBounds, if_neg (by omega)]; exact h6.1, by rw [Array.getElem?_setIfInBounds, if_neg (by omega), Array.getElem?_setIfInBounds, if_neg (by omega)]; exact h6.2⟩
          have hkz : V1 (fun b => ¬ F b) w8 (.slice ka k.length kc) k := HK.out.1.mono (fun b h _ => h) (hC8.keep fun b h => h)
          have hxz : ∀ o, w8.cell? ⟨W.heap.size, o, none⟩ = (#[.int .i64 m.c, .int .i64 m.d, .int .i64 m.s, .int .i64 m.e, .int .i64 m.l, .slice ta t.length tc] : Array Value)[o]? := fun o => by rw [(HK.out.2.2.2.2.2.trans hC8 (fun i hi => .inl hi)).cell hz01 (fun hf => Nat.lt_irrefl _ (HA.out.2.2.2.2.2.2.2.2.2.2.1 _ hf)), hc01]
          have hzz := hC8.size
          have HZ := Lib.hid (And.intro hsh8 (And.intro Hh.out.2.2.2.2 (And.intro hC8 (runL_goat HL.out.2.1 hst)))); clear hsh8 hC8 hst hb7 hw8 hC7
          go_wp2_with fail
          refine (l02Next_any m HA.out.2.2.2.2.2.2.2.2.2.1 _ k _ hkz HK.out.2.1 HK.out.2.2.1).mono ?_
          rintro e' wM ⟨kv', he', hkv', hbM⟩
          rw [HK.out.2.2.2.1] at he' hkv'
          subst he'
          have hkv2 : (nextAns r).2 = true → V1 (fun b => ¬ F b) wM kv' (nextAns r).1 := fun hh => (hkv' hh).mono (fun b h1 h2 hf => by
           have := HA.out.2.2.2.2.2.2.2.2.2.2.1 b hf
           rcases h1 with h1 | h1
           ·exact h1.elim
           ·omega) (fun _ _ _ => rfl)
          have HM := Lib.hid (And.intro hkv2 (And.intro (toCome_nextR HA.out.2.2.2.2.2.2.2.2.2.2.2.1 hkv2 HL.out.2.2) (toCome_more (m := m) HK.out.1))); clear hkv' hkv2 hxz
          obtain ⟨qb, hqb⟩ : ∃ qb, (nextAns r).2 = qb := ⟨_, rfl⟩
          rw [hqb]
          have Hqb := Lib.hid hqb; clear hqb
          go_wp2_with fail
          go_roundw
          case rel => exact ⟨L1 ++ [k], r, (st.1 + 1, st.2 ++ [y]), HL.out.2.2, HZ.out.2.2.2, by go_num, by rw [Hqb.out], HM.out.1, HZ.out.1.below hbM, HZ.out.2.1, (HK.out.2.2.2.2.1.trans HZ.out.2.2.1 (fun i hi => .inl hi)).then_below hbM, (HK.out.2.2.2.2.2.trans HZ.out.2.2.1 (fun i hi => .inl hi)).then_below hbM⟩
          case measure => rw [HM.out.2.2, HK.out.2.2.2.1]; have := HM.out.2.1; rw [Hqb.out] at this; omega
       ·skip
        have hno : openS x = false := by rw [Hopn.out.1]; rfl
        have hstep := HN.out.2.2.2.2.2
        rw [if_neg (by rw [hno]; decide)] at hstep
        clear hno
        cases hh : hasL LL [x.1, x.2]
        ·rw [if_neg (by rw [hh]; decide)] at hstep
         have Hh := Lib.hid (And.intro hh hstep); clear hh hstep
         go_wp2_with fail
         refine (l19Pair_b _ LL x _ _ Hh.out.1 HF6.out.1.v2).mono ?_
         rintro e' w7 ⟨rfl, hb7⟩
         have hCf := (HK.out.2.2.2.2.1.trans hCr6 (fun i hi => .inl hi)).then_below hb7
         have hsh7 := (HS.out.1.below HF6.out.2).below hb7
         have hst := Hh.out.2
         have hres : readF n t (keysOf m) steps (d + 1) cuts s = (st, false) := by
          show runL (rdStep n t steps (readF n t (keysOf m) steps d) cuts) s (keysOf m) = _
          rw [← hf, HL.out.1]
          exact runL_stopat HL.out.2.1 hst
         have HZ := Lib.hid (And.intro hres (And.intro hsh7 hCf)); clear hres
         go_wp2_with fail
         go_ret2
         (try rw [HZ.out.1])
         exact ⟨rfl, HZ.out.2.1, HZ.out.2.2⟩
        ·rw [if_pos hh] at hstep
         have hLpos : 0 < LL.length := by
          rcases Nat.eq_zero_or_pos LL.length with h0 | h0
          ·rw [List.length_eq_zero_iff.1 h0] at hh; simp [hasL] at hh
          ·exact h0
         obtain ⟨fi, fd, _, _, hrow, _, _⟩ := HN.out.2.2.2.2.1 (by omega)
         obtain ⟨y, hy⟩ : ∃ y, lastStep LL = y := ⟨_, rfl⟩
         rw [hy] at hstep
         have hy1 : y = ((fi : Int), (fd : Int)) := by rw [← hy]; unfold lastStep; rw [hrow]; rfl
         have hrd2 : RdOk steps (st.1 + 1, st.2 ++ [y]) := ⟨by show st.1 + 1 ≤ _; omega, by show (st.2 ++ [y]).length = st.1 + 1; rw [List.length_append, HS.out.2.1.2]; rfl⟩
         have Hh := Lib.hid (And.intro hh (And.intro hstep (And.intro hrow (And.intro hy1 hrd2)))); clear hh hstep hrow hy hy1 hrd2
         have hwr : IntKind.i64.wrap ((st.1 : Int) + 1) = (st.1 : Int) + 1 := IntWalk.i64_in _ (by omega)
         go_wp2_with fail
         refine (l19Pair_b _ LL x _ _ Hh.out.1 HF6.out.1.v2).mono ?_
         rintro e' w7 ⟨rfl, hb7⟩
         have hC7 := hCr6.then_below hb7
         have hst := Hh.out.2.1
         have hz7 := hb7.size
         have hsh0 := (HS.out.1.below HF6.out.2).below hb7
         rcases hsh0 with ⟨rfl, hF0⟩ | ⟨G, gc, cs, rfl, hG1, hG2, hG3, hG4, hG5, hG6⟩
         ·have hsh7 : ShV steps (.slice none 0 0) F w7 (st.1 + 1, st.2 ++ [y]) := .inl ⟨rfl, hF0⟩
          have hng : ¬ (st.1 : Int) < 0 := by omega
          have hkz : V1 (fun b => ¬ F b) w7 (.slice ka k.length kc) k := HK.out.1.mono (fun b h _ => h) (hC7.keep fun b h => h)
          have hxz : ∀ o, w7.cell? ⟨W.heap.size, o, none⟩ = (#[.int .i64 m.c, .int .i64 m.d, .int .i64 m.s, .int .i64 m.e, .int .i64 m.l, .slice ta t.length tc] : Array Value)[o]? := fun o => by rw [(HK.out.2.2.2.2.2.trans hC7 (fun i hi => .inl hi)).cell hz01 (fun hf => Nat.lt_irrefl _ (HA.out.2.2.2.2.2.2.2.2.2.2.1 _ hf)), hc01]
          have hzz := hC7.size
          have HZ := Lib.hid (And.intro hsh7 (And.intro Hh.out.2.2.2.2 (And.intro hC7 (runL_goat HL.out.2.1 hst)))); clear hsh7 hC7 hst hb7 hF0
          go_wp2_with fail
          refine (l02Next_any m HA.out.2.2.2.2.2.2.2.2.2.1 _ k _ hkz HK.out.2.1 HK.out.2.2.1).mono ?_
          rintro e' wM ⟨kv', he', hkv', hbM⟩
          rw [HK.out.2.2.2.1] at he' hkv'
          subst he'
          have hkv2 : (nextAns r).2 = true → V1 (fun b => ¬ F b) wM kv' (nextAns r).1 := fun hh => (hkv' hh).mono (fun b h1 h2 hf => by
           have := HA.out.2.2.2.2.2.2.2.2.2.2.1 b hf
           rcases h1 with h1 | h1
           ·exact h1.elim
           ·omega) (fun _ _ _ => rfl)
          have HM := Lib.hid (And.intro hkv2 (And.intro (toCome_nextR HA.out.2.2.2.2.2.2.2.2.2.2.2.1 hkv2 HL.out.2.2) (toCome_more (m := m) HK.out.1))); clear hkv' hkv2 hxz
          obtain ⟨qb, hqb⟩ : ∃ qb, (nextAns r).2 = qb := ⟨_, rfl⟩
          rw [hqb]
          have Hqb := Lib.hid hqb; clear hqb
          go_wp2_with fail
          go_roundw
          case rel => exact ⟨L1 ++ [k], r, (st.1 + 1, st.2 ++ [y]), HL.out.2.2, HZ.out.2.2.2, by go_num, by rw [Hqb.out], HM.out.1, HZ.out.1.below hbM, HZ.out.2.1, (HK.out.2.2.2.2.1.trans HZ.out.2.2.1 (fun i hi => .inl hi)).then_below hbM, (HK.out.2.2.2.2.2.trans HZ.out.2.2.1 (fun i hi => .inl hi)).then_below hbM⟩
          case measure => rw [HM.out.2.2, HK.out.2.2.2.1]; have := HM.out.2.1; rw [Hqb.out] at this; omega
         ·have hF7 := HF6.out.1.v2.below hb7
          obtain ⟨b4, off4, a4, c4, rfl, hS4, hc4, hr4⟩ := hF7.cell (show LL.length - 1 < LL.length by omega)
          rw [Hh.out.2.2.1] at hc4 hr4
          obtain ⟨b5, off5, rfl, hS5, hc5⟩ := hr4.cell (k := 0) (by simp)
          obtain ⟨b6, off6, e6, _, hc6⟩ := hr4.cell (k := 1) (by simp)
          obtain ⟨rfl, rfl⟩ : b5 = b6 ∧ off5 = off6 := by simpa using e6
          simp only [geti, List.getD_cons_zero, List.getD_cons_succ, List.length_cons, List.length_nil, Nat.add_zero, Nat.zero_add] at hc4 hc5 hc6
          have hye1 : ((fi : Int)) = y.1 := by rw [Hh.out.2.2.2.1]
          have hye2 : ((fd : Int)) = y.2 := by rw [Hh.out.2.2.2.1]
          rw [hye1] at hc5
          rw [hye2] at hc6
          have hwl : IntKind.i64.wrap ((LL.length : Int) - 1) = ((LL.length - 1 : Nat) : Int) := by rw [IntWalk.i64_in _ (by omega)]; omega
          have hli : ((LL.length - 1 : Nat) : Int) < (LL.length : Int) := by omega
          obtain ⟨u0, hco⟩ : ∃ u0, w7.cell? ⟨G, st.1 * 2, none⟩ = some u0 := ⟨cs[st.1 * 2]'(by omega), by rw [cell_of_block hG4]; exact Array.getElem?_eq_getElem (by omega)⟩
          obtain ⟨u1, hco1⟩ : ∃ u1, w7.cell? ⟨G, st.1 * 2 + 1, none⟩ = some u1 := ⟨cs[st.1 * 2 + 1]'(by omega), by rw [cell_of_block hG4]; exact Array.getElem?_eq_getElem (by omega)⟩
          have hfo := frozen_of_block hG4 (st.1 * 2)
          have hfo1 := frozen_of_block hG4 (st.1 * 2 + 1)
          have HG := Lib.hid (And.intro hG1 (And.intro hG2 (And.intro hG3 (And.intro hG4 (And.intro hG5 hG6))))); clear hG1 hG2 hG3 hG4 hG5 hG6 hF7 hr4 e6
          go_wp2_with fail
          go_region
          obtain ⟨w8, hw8⟩ : ∃ w8, ((w7.setCell ⟨G, st.1 * 2, none⟩ (.int .i64 y.1)).setCell ⟨G, st.1 * 2 + 1, none⟩ (.int .i64 y.2)).drew = w8 := ⟨_, rfl⟩
          rw [hw8]
          have hC8 : Chg F wr w8 := by rw [← hw8]; exact ((hC7.setCell (p := ⟨G, st.1 * 2, none⟩) (.inl ((HG.out.1 G).2 rfl)) _).setCell (p := ⟨G, st.1 * 2 + 1, none⟩) (.inl ((HG.out.1 G).2 rfl)) _).drew
          have hsh8 : ShV steps (.slice (some ⟨G, 0, none⟩) steps.length gc) F w8 (st.1 + 1, st.2 ++ [y]) := by
           refine .inr ⟨G, gc, _, rfl, HG.out.1, HG.out.2.1, HG.out.2.2.1, by rw [← hw8]; exact heap_setCell_self (heap_setCell_self HG.out.2.2.2.1 _) _, by simp; exact HG.out.2.2.2.2.1, fun j hj => ?_⟩
           have h5 := HG.out.2.2.2.2.1
           have h6 := HG.out.2.2.2.2.2 j hj
           show _ = some (Value.int .i64 (gets ((st.2 ++ [y]) ++ steps.drop (st.1 + 1)) j).1) ∧ _ = some (Value.int .i64 (gets ((st.2 ++ [y]) ++ steps.drop (st.1 + 1)) j).2)
           rw [cur_set HS.out.2.1 hlts]
           by_cases e : j = st.1
           ·subst e
            rw [if_pos rfl]
            exact ⟨by rw [Array.getElem?_setIfInBounds, if_neg (by omega), Array.getElem?_setIfInBounds, if_pos rfl, if_pos (by omega)], by rw [Array.getElem?_setIfInBounds, if_pos rfl, if_pos (by simp; omega)]⟩
           ·rw [if_neg e]
            exact ⟨by rw [Array.getElem?_setIfInBounds, if_neg (by omega), Array.getElem?_setIfInBounds, if_neg (by omega)]; exact h6.1, by rw [Array.getElem?_setIfInBounds, if_neg (by omega), Array.getElem?_setIfInBounds, if_neg (by omega)]; exact h6.2⟩
          have hkz : V1 (fun b => ¬ F b) w8 (.slice ka k.length kc) k := HK.out.1.mono (fun b h _ => h) (hC8.keep fun b h => h)
          have hxz : ∀ o, w8.cell? ⟨W.heap.size, o, none⟩ = (#[.int .i64 m.c, .int .i64 m.d, .int .i64 m.s, .int .i64 m.e, .int .i64 m.l, .slice ta t.length tc] : Array Value)[o]? := fun o => by rw [(HK.out.2.2.2.2.2.trans hC8 (fun i hi => .inl hi)).cell hz01 (fun hf => Nat.lt_irrefl _ (HA.out.2.2.2.2.2.2.2.2.2.2.1 _ hf)), hc01]
          have hzz := hC8.size
          have HZ := Lib.hid (And.intro hsh8 (And.intro Hh.out.2.2.2.2 (And.intro hC8 (runL_goat HL.out.2.1 hst)))); clear hsh8 hC8 hst hb7 hw8 hC7
          go_wp2_with fail
          refine (l02Next_any m HA.out.2.2.2.2.2.2.2.2.2.1 _ k _ hkz HK.out.2.1 HK.out.2.2.1).mono ?_
          rintro e' wM ⟨kv', he', hkv', hbM⟩
          rw [HK.out.2.2.2.1] at he' hkv'
          subst he'
          have hkv2 : (nextAns r).2 = true → V1 (fun b => ¬ F b) wM kv' (nextAns r).1 := fun hh => (hkv' hh).mono (fun b h1 h2 hf => by
           have := HA.out.2.2.2.2.2.2.2.2.2.2.1 b hf
           rcases h1 with h1 | h1
           ·exact h1.elim
           ·omega) (fun _ _ _ => rfl)
          have HM := Lib.hid (And.intro hkv2 (And.intro (toCome_nextR HA.out.2.2.2.2.2.2.2.2.2.2.2.1 hkv2 HL.out.2.2) (toCome_more (m := m) HK.out.1))); clear hkv' hkv2 hxz
          obtain ⟨qb, hqb⟩ : ∃ qb, (nextAns r).2 = qb := ⟨_, rfl⟩
          rw [hqb]
          have Hqb := Lib.hid hqb; clear hqb
          go_wp2_with fail
          go_roundw
          case rel => exact ⟨L1 ++ [k], r, (st.1 + 1, st.2 ++ [y]), HL.out.2.2, HZ.out.2.2.2, by go_num, by rw [Hqb.out], HM.out.1, HZ.out.1.below hbM, HZ.out.2.1, (HK.out.2.2.2.2.1.trans HZ.out.2.2.1 (fun i hi => .inl hi)).then_below hbM, (HK.out.2.2.2.2.2.trans HZ.out.2.2.1 (fun i hi => .inl hi)).then_below hbM⟩
          case measure => rw [HM.out.2.2, HK.out.2.2.2.1]; have := HM.out.2.1; rw [Hqb.out] at this; omega
       ·have hop : openS x = true := by rw [Hopn.out.1]; rfl
        have hstep := HN.out.2.2.2.2.2
        rw [if_pos hop] at hstep
        clear hop
        by_cases hmo : cuts.length + 1 < t.length
        ·rw [if_pos hmo] at hstep
         have he2 : ((cuts.length : Int) + 1 == (t.length : Int)) = false := by rw [beq_eq_false_iff_ne]; omega
         obtain ⟨rr, hrr⟩ : ∃ rr, readF n t (keysOf m) steps d (cuts ++ [k]) (st.1 + 1, st.2 ++ [x]) = rr := ⟨_, rfl⟩
         have hrd1 : RdOk steps (st.1 + 1, st.2 ++ [x]) := ⟨by show st.1 + 1 ≤ _; omega, by show (st.2 ++ [x]).length = st.1 + 1; rw [List.length_append, HS.out.2.1.2]; rfl⟩
         have hrd2 : RdOk steps rr.1 := by rw [← hrr]; exact readF_ok hrd1
         have hsh1 := (HS.out.1.below HF6.out.2).open hlts
         rw [HS.out.2.2.2.2.1] at hsh1
         have hb56 : Below w5.heap.size w5 w6 := by
          have h1 : Below w5.heap.size w5 (w5.alloc (.cells #[.int .i64 x.1, .int .i64 x.2] 48)) := (Below.refl _ _).alloc (Nat.le_refl _) _
          exact h1.trans (H56.out.mono (by omega))
         have IHr := HA.out.2.2.2.2.2.2.2.1 (cuts ++ [k]) (.slice na (cuts.length + 1) nc) (st.1 + 1, st.2 ++ [x]) w6 (by simp; omega)
          ⟨hsh1, hrd1, (HS.out.2.2.1.below HF6.out.2).mono (fun b h _ => h.1) (fun _ _ _ => rfl), (HS.out.2.2.2.1.below HF6.out.2).mono (fun b h _ => h.1) (fun _ _ _ => rfl), (HN.out.1.below hb56).mono (fun b h _ hf => by
           rcases h with (h | h) | h
           ·exact h.1 hf
           ·exact h hf
           ·have := HA.out.2.2.2.2.2.2.2.2.2.2.1 b hf; omega) (fun _ _ _ => rfl), fun e => by simp at e, hok.more hlt hkk, by simp; omega⟩
         rw [hrr] at IHr hstep
         have e : (((st.1 + 1, st.2 ++ [x]) : RSt).1 : Int) = (st.1 : Int) + 1 := by show ((st.1 + 1 : Nat) : Int) = _; omega
         rw [e] at IHr
         have hwr : IntKind.i64.wrap ((st.1 : Int) + 1) = (st.1 : Int) + 1 := IntWalk.i64_in _ (by omega)
         clear e hsh1 hrr hrd1 hb56
         obtain ⟨rst, rb⟩ := rr
         have HR := Lib.hid (And.intro IHr (And.intro hrd2 hstep)); clear IHr hrd2 hstep
         cases rb
         ·go_wp2_with fail
          refine HR.out.1.mono ?_
          rintro e' w7 ⟨rfl, hsh7, hch7⟩
          have hCf := (HK.out.2.2.2.2.1.trans hCr6 (fun i hi => .inl hi)).trans hch7 (fun i hi => .inl hi)
          have hst := HR.out.2.2
          have hres : readF n t (keysOf m) steps (d + 1) cuts s = (rst, false) := by
           show runL (rdStep n t steps (readF n t (keysOf m) steps d) cuts) s (keysOf m) = _
           rw [← hf, HL.out.1]
           exact runL_stopat HL.out.2.1 hst
          have HZ := Lib.hid (And.intro hres (And.intro hsh7 hCf)); clear hres
          go_wp2_with fail
          go_ret2
          (try rw [HZ.out.1])
          exact ⟨rfl, HZ.out.2.1, HZ.out.2.2⟩
         ·go_wp2_with fail
          refine HR.out.1.mono ?_
          rintro e' w7 ⟨rfl, hsh7, hch7⟩
          have hC7 := hCr6.trans hch7 (fun i hi => .inl hi)
          have hst := HR.out.2.2
          have hkz : V1 (fun b => ¬ F b) w7 (.slice ka k.length kc) k := HK.out.1.mono (fun b h _ => h) (hC7.keep fun b h => h)
          have hxz : ∀ o, w7.cell? ⟨W.heap.size, o, none⟩ = (#[.int .i64 m.c, .int .i64 m.d, .int .i64 m.s, .int .i64 m.e, .int .i64 m.l, .slice ta t.length tc] : Array Value)[o]? := fun o => by rw [(HK.out.2.2.2.2.2.trans hC7 (fun i hi => .inl hi)).cell hz01 (fun hf => Nat.lt_irrefl _ (HA.out.2.2.2.2.2.2.2.2.2.2.1 _ hf)), hc01]
          have hzz := hC7.size
          have HZ := Lib.hid (And.intro hsh7 (And.intro HR.out.2.1 (And.intro hC7 (runL_goat HL.out.2.1 hst)))); clear hsh7 hch7 hC7 hst
          go_wp2_with fail
          refine (l02Next_any m HA.out.2.2.2.2.2.2.2.2.2.1 _ k _ hkz HK.out.2.1 HK.out.2.2.1).mono ?_
          rintro e' wM ⟨kv', he', hkv', hbM⟩
          rw [HK.out.2.2.2.1] at he' hkv'
          subst he'
          have hkv2 : (nextAns r).2 = true → V1 (fun b => ¬ F b) wM kv' (nextAns r).1 := fun hh => (hkv' hh).mono (fun b h1 h2 hf => by
           have := HA.out.2.2.2.2.2.2.2.2.2.2.1 b hf
           rcases h1 with h1 | h1
           ·exact h1.elim
           ·omega) (fun _ _ _ => rfl)
          have HM := Lib.hid (And.intro hkv2 (And.intro (toCome_nextR HA.out.2.2.2.2.2.2.2.2.2.2.2.1 hkv2 HL.out.2.2) (toCome_more (m := m) HK.out.1))); clear hkv' hkv2 hxz
          obtain ⟨qb, hqb⟩ : ∃ qb, (nextAns r).2 = qb := ⟨_, rfl⟩
          rw [hqb]
          have Hqb := Lib.hid hqb; clear hqb
          go_wp2_with fail
          go_roundw
          case rel => exact ⟨L1 ++ [k], r, rst, HL.out.2.2, HZ.out.2.2.2, by go_num, by rw [Hqb.out], HM.out.1, HZ.out.1.below hbM, HZ.out.2.1, (HK.out.2.2.2.2.1.trans HZ.out.2.2.1 (fun i hi => .inl hi)).then_below hbM, (HK.out.2.2.2.2.2.trans HZ.out.2.2.1 (fun i hi => .inl hi)).then_below hbM⟩
          case measure => rw [HM.out.2.2, HK.out.2.2.2.1]; have := HM.out.2.1; rw [Hqb.out] at this; omega
        ·rw [if_neg hmo] at hstep
         have he2 : ((cuts.length : Int) + 1 == (t.length : Int)) = true := by simp; omega
         have hCf := HK.out.2.2.2.2.1.trans hCr6 (fun i hi => .inl hi)
         have hsh6 := HS.out.1.below HF6.out.2
         have hres : readF n t (keysOf m) steps (d + 1) cuts s = (st, false) := by
          show runL (rdStep n t steps (readF n t (keysOf m) steps d) cuts) s (keysOf m) = _
          rw [← hf, HL.out.1]
          exact runL_stopat HL.out.2.1 hstep
         have HZ := Lib.hid (And.intro hres (And.intro hsh6 hCf)); clear hres
         go_wp2_with fail
         go_ret2
         (try rw [HZ.out.1])
         exact ⟨rfl, HZ.out.2.1, HZ.out.2.2⟩
end Go.Proofs.YtbekpololmahoaaGreatDoor
