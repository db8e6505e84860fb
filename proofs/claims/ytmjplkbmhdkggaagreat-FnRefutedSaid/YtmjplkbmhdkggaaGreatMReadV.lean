/- The program's reader of steps, as it is called. No conditions. -/
import Derived.Test.YtmjplkbmhdkggaaGreatReadI
import Derived.Test.YtmjplkbmhdkggaaGreatMDraw23
namespace Go.Proofs.YtmjplkbmhdkggaaGreat
open Go.RowKit
set_option linter.unusedVariables false
set_option linter.unusedSimpArgs false
def RvInv (m : Mk) (tv sv : Value) (steps : List (Int × Int)) (RB B FB : Nat) (st : RSt × Bool) (F : Nat → Prop) (w : World) : Prop :=
 ∃ gv, Rd m tv sv steps RB B st.1 gv w ∧ w.heap[FB]? = some (.cells #[.bool st.2] 4 (0, 0)) ∧ ¬ RF RB gv FB ∧ ∀ b, F b ↔ (RF RB gv b ∨ b = FB)
theorem enters_refute1 : Enters 155 := fun args w => by kernel_rfl
theorem rv_ok (m : Mk) (t : List (List Int)) (n : Nat) (hn : (n : Int) = m.c) (steps : List (Int × Int)) (hsl : steps.length ≤ 1200) (tv sv cv gv0 : Value) (RB B FB B2 B3 d : Nat) (cuts : List (List Int)) (s0 : RSt) (w0 : World)
  (hp : PartOk m t cuts) (hl : cuts.length < t.length) (hcd : cuts.length + (d + 1) = t.length) (IH : RefAny m t tv sv steps RB B d n)
  (h2 : w0.cell? ⟨B2, 0, none⟩ = some (.pointer (some ⟨RB, 0, none⟩))) (f2 : ¬ (RF RB gv0 B2 ∨ B2 = FB)) (h3 : w0.cell? ⟨B3, 0, none⟩ = some cv) (f3 : ¬ (RF RB gv0 B3 ∨ B3 = FB))
  (ht : V2 (fun b => ¬ (RF RB gv0 b ∨ b = FB) ∧ b < w0.heap.size) w0 tv t) (hs : VS (fun b => ¬ (RF RB gv0 b ∨ b = FB) ∧ b < w0.heap.size) w0 sv steps) (hc : V2 (fun b => ¬ (RF RB gv0 b ∨ b = FB) ∧ b < w0.heap.size) w0 cv cuts) (hcp : cuts = [] → PV cv) :
  VisOk m.c.toNat w0 (fun b => RF RB gv0 b ∨ b = FB) 155 #[.pointer (some ⟨B2, 0, none⟩), .pointer (some ⟨FB, 0, none⟩), .pointer (some ⟨B3, 0, none⟩)] (flag (rdStep n t steps (readF n t (keysOf m) steps d) cuts)) (s0, true) (genF m (fun _ _ => true) [] false m.c.toNat []) (RvInv m tv sv steps RB B FB) := by
 refine ⟨enters_refute1, ?_, ?_, ?_⟩
 ·rintro s F w w' ⟨gv, h1, h2, h3, h4⟩ hz hk
  exact ⟨gv, h1.keep hz (fun b hb => hk b ((h4 b).2 (.inl hb))), by rw [hk FB ((h4 FB).2 (.inr rfl))]; exact h2, h3, h4⟩
 ·rintro s F w ⟨gv, h1, h2, h3, h4⟩ b hb
  rcases (h4 b).1 hb with h | h
  ·exact h1.lt h
  ·subst h; exact lt_of_heap h2
 ·rintro ⟨s, fl⟩ F S w v key done rest hL hr ⟨gv, hR, hFB, hFn, hFi⟩ hchg hsub hV hS hlen
  have hkey : isKeyB m key = true := by
   have hc0 : 0 ≤ m.c := by omega
   refine (mem_keysOf hc0).1 ?_
   have hk : key ∈ genF m (fun _ _ => true) [] false m.c.toNat [] := by rw [hL]; simp
   rw [genF_free] at hk
   exact hk
  have hfar : ∀ b, (¬ (RF RB gv0 b ∨ b = FB) ∧ b < w0.heap.size) → ¬ RF RB gv b ∧ b ≠ FB ∧ b < w.heap.size := fun b hb => by
   refine ⟨fun h => ?_, fun h => hb.1 (.inr h), by have := hchg.size; omega⟩
   rcases hsub b ((hFi b).2 (.inl h)) with h1 | h1
   ·exact hb.1 h1
   ·omega
  have hkp : Keep (fun b => ¬ (RF RB gv0 b ∨ b = FB) ∧ b < w0.heap.size) w0 w := hchg.keep fun b hb => hb.1
  refine (refute1_any (Far := fun b => ¬ (RF RB gv0 b ∨ b = FB) ∧ b < w0.heap.size) m t n hn steps hsl tv sv cv v gv RB B FB B2 B3 d cuts key s fl w hp hl hcd IH hR hFB hFn hfar (cell_keep h2 (hchg.block _ (lt_of_cell h2) f2)) ⟨f2, lt_of_cell h2⟩ (cell_keep h3 (hchg.block _ (lt_of_cell h3) f3)) ⟨f3, lt_of_cell h3⟩
   (ht.mono (fun _ h _ => h) hkp) (hs.mono (fun _ h _ => h) hkp) (hc.mono (fun _ h _ => h) hkp) hcp hV hkey).mono ?_
  rintro e w' ⟨gv', rfl, h1, h2, h3, h4⟩
  refine ⟨fun b => RF RB gv' b ∨ b = FB, rfl, ⟨gv', h1, h2, fun h => ?_, fun b => Iff.rfl⟩, h3.mono (fun b hb => (hFi b).2 hb), fun b hb => ?_⟩
  ·have := lt_of_heap hFB
   rcases h4 FB h with h | h
   ·exact hFn h
   ·omega
  ·rcases hb with h | h
   ·rcases h4 b h with h | h
    ·exact .inl ((hFi b).2 (.inl h))
    ·exact .inr h
   ·exact .inl ((hFi b).2 (.inr h))
set_option maxRecDepth 100000 in
set_option maxHeartbeats 1000000 in
theorem refute_any (m : Mk) (t : List (List Int)) (n : Nat) (hn : (n : Int) = m.c) (steps : List (Int × Int)) (hsl : steps.length ≤ 1200) (tv sv : Value) (RB B : Nat) : ∀ d, RefAny m t tv sv steps RB B d n := by
 intro d
 induction d with
 | zero => intro cuts cv s gv W hcd ask; have := ask.lt; omega
 | succ d ih =>
   intro cuts cv s gv W hcd ask
   obtain ⟨hR, ht, hs, hc, hcp, hok, hlt⟩ := ask
   have hmk := hok.fits.ok
   have hRl := lt_of_heap hR.hh
   obtain ⟨ta, tc, rfl, htm⟩ := ht.form
   obtain ⟨sa, sc, rfl, hsm⟩ := hs.form
   obtain ⟨ca, cc, rfl, hcm⟩ := hc.form
   obtain ⟨ga, gc, rfl, hg1, hg2⟩ := own_formz hR.own
   obtain ⟨WA, hWA⟩ : ∃ WA, WA = ((W.alloc (.cells #[.pointer (some ⟨RB, 0, none⟩)] 113)).alloc (.cells #[.slice ca cuts.length cc] 24)).alloc (.cells #[.bool true] 4) := ⟨_, rfl⟩
   have hbA : Below W.heap.size W WA := by rw [hWA]; exact by (repeat (first | (with_reducible refine Below.setCell ?_ ?_ _) | (with_reducible refine Below.alloc ?_ ?_ _) | (with_reducible refine Below.drew ?_) | (with_reducible refine below_drewN ?_ _) | (with_reducible exact Below.refl _ _) | (with_reducible assumption) | (with_reducible refine Below.trans ?_ (Below.mono (by with_reducible assumption) ?_)) | go_size))
   have hzA : WA.heap.size = W.heap.size + 3 := by rw [hWA]; simp
   have hA0 : WA.heap[W.heap.size]? = some (.cells #[.pointer (some ⟨RB, 0, none⟩)] 113 (0, 0)) := by rw [hWA]; simp only [heap_alloc_at, World.size_alloc]; simp; omega
   have hA1 : WA.heap[W.heap.size + 1]? = some (.cells #[.slice ca cuts.length cc] 24 (0, 0)) := by rw [hWA]; simp only [heap_alloc_at, World.size_alloc]; simp
   have hA2 : WA.heap[W.heap.size + 1 + 1]? = some (.cells #[.bool true] 4 (0, 0)) := by rw [hWA]; simp only [heap_alloc_at, World.size_alloc]; simp
   have hRA := hR.below hbA
   have hFn : ¬ RF RB (.slice ga s.2.length gc) (W.heap.size + 1 + 1) := fun h => by have := hR.lt h; omega
   have hol : ∀ b, b < W.heap.size → ¬ RF RB (.slice ga s.2.length gc) b → ¬ (RF RB (.slice ga s.2.length gc) b ∨ b = W.heap.size + 1 + 1) := fun b hb h h2 => by rcases h2 with h2 | h2; exact h h2; omega
   have hnew : ∀ b, W.heap.size ≤ b → b < W.heap.size + 1 + 1 → ¬ (RF RB (.slice ga s.2.length gc) b ∨ b = W.heap.size + 1 + 1) := fun b h1 h2 h => by
    rcases h with h | h
    ·have := hR.lt h; omega
    ·omega
   have hkA : Keep (fun b => ¬ RF RB (.slice ga s.2.length gc) b) W WA := fun b _ hb => hbA.block b hb
   have htA := ht.mono (S' := fun b => ¬ (RF RB (.slice ga s.2.length gc) b ∨ b = W.heap.size + 1 + 1) ∧ b < WA.heap.size) (fun b h1 h2 => ⟨hol b h2 h1, by omega⟩) hkA
   have hsA := hs.mono (S' := fun b => ¬ (RF RB (.slice ga s.2.length gc) b ∨ b = W.heap.size + 1 + 1) ∧ b < WA.heap.size) (fun b h1 h2 => ⟨hol b h2 h1, by omega⟩) hkA
   have hcA := hc.mono (S' := fun b => ¬ (RF RB (.slice ga s.2.length gc) b ∨ b = W.heap.size + 1 + 1) ∧ b < WA.heap.size) (fun b h1 h2 => ⟨hol b h2 h1, by omega⟩) hkA
   have hV := rv_ok m t n hn steps hsl (.slice ta t.length tc) (.slice sa steps.length sc) (.slice ca cuts.length cc) (.slice ga s.2.length gc) RB B (W.heap.size + 1 + 1) W.heap.size (W.heap.size + 1) d cuts s WA hok hlt (by omega) ih
    (by rw [cell_of_block hA0]; rfl) (hnew _ (Nat.le_refl _) (by omega)) (by rw [cell_of_block hA1]; rfl) (hnew _ (by omega) (by omega)) htA hsA hcA hcp
   have hI : RvInv m (.slice ta t.length tc) (.slice sa steps.length sc) steps RB B (W.heap.size + 1 + 1) (s, true) (fun b => RF RB (.slice ga s.2.length gc) b ∨ b = W.heap.size + 1 + 1) WA := ⟨_, hRA, hA2, hFn, fun b => Iff.rfl⟩
   have hek := eachKey_any (A := fun _ _ => true) (av := .nilFunc) hmk WA hV (.inl ⟨rfl, fun _ _ => rfl⟩) hI
   have hkx : ∀ o1 o2 o3 k, (((W.alloc o1).alloc o2).alloc o3).cell? ⟨RB, k, none⟩ = (#[.int .i64 m.c, .int .i64 m.d, .int .i64 m.s, .int .i64 m.e, .int .i64 m.l, .slice ta t.length tc, .slice sa steps.length sc, .int .i64 (s.1 : Int), .slice ga s.2.length gc] : Array Value)[k]? := fun o1 o2 o3 k => by
    rw [(bcell (show Below W.heap.size W (((W.alloc o1).alloc o2).alloc o3) from by go_grown)).1 _ _ hRl, hR.cell]; rfl
   rw [genF_free, runL_flag] at hek
   have hres : readF n t (keysOf m) steps (d + 1) cuts s = runL (rdStep n t steps (readF n t (keysOf m) steps d) cuts) s (keysOf m) := rfl
   have hgen : gen m m.c.toNat [] = keysOf m := rfl
   rw [hgen] at hek
   obtain ⟨r, hr⟩ : ∃ r, runL (rdStep n t steps (readF n t (keysOf m) steps d) cuts) s (keysOf m) = r := ⟨_, rfl⟩
   rw [hr] at hek hres
   rw [hres]
   have Hek := Lib.hid (And.intro hek (And.intro hR (And.intro hbA (And.intro hzA hWA)))); clear hek hV hI hR hRA hbA hA0 hA1 hA2 hr hres ih ht hs hc htA hsA hcA hkA hnew hol hFn hok hcp hWA
   clear hzA
   go_enter Tryz.func100, Tryz.ntmps100
   go_wp2_with fail
   rw [← Hek.out.2.2.2.2]
   refine Hek.out.1.mono ?_
   rintro e' w' ⟨F', ⟨gv', h1, h2, h3, h4⟩, hch, hsub, rfl⟩
   have hzA := Hek.out.2.2.2.1
   have hzw := hch.size
   have cF : w'.cell? ⟨W.heap.size + 1 + 1, 0, none⟩ = some (.bool r.2) := by rw [cell_of_block h2]; rfl
   have hchW : Chg (RF RB (.slice ga s.2.length gc)) W w' := (Chg.of_below Hek.out.2.2.1).trans hch (fun i hi => by
    rcases hi with hi | hi
    ·exact .inl hi
    ·right; omega)
   have hsW : ∀ b, RF RB gv' b → RF RB (.slice ga s.2.length gc) b ∨ W.heap.size ≤ b := fun b hb => by
    rcases hsub b ((h4 b).2 (.inl hb)) with (h | h) | h
    ·exact .inl h
    ·right; omega
    ·right; omega
   have HF := Lib.hid (And.intro h1 (And.intro hchW hsW)); clear h1 h2 h3 h4 hch hsub hchW hsW
   go_wp2_with fail
   go_ret
   exact ⟨gv', rfl, HF.out.1, HF.out.2.1, HF.out.2.2⟩
def RfF (PB KB NB : Nat) (gv : Value) (b : Nat) : Prop := b = PB ∨ b = KB ∨ b = NB ∨ gv.ownBlock = some b
structure Rf (PB KB NB B : Nat) (s : FSt) (gv : Value) (w : World) : Prop where
 hp : w.heap[PB]? = some (.cells #[gv] 59 (0, 0))
 hk : w.heap[KB]? = some (.cells #[.bool (decide (s.2 = 3))] 4 (0, 0))
 hn : w.heap[NB]? = some (.cells #[.bool (decide (s.2 = 5))] 4 (0, 0))
 own : w.ownsRow B 107 2 gv (rfL s).length (flatS (rfL s))
 ne : gv.ownBlock ≠ some PB ∧ gv.ownBlock ≠ some KB ∧ gv.ownBlock ≠ some NB
 ok : RfOk s
 lo : B ≤ w.heap.size
 df : PB ≠ KB ∧ PB ≠ NB ∧ KB ≠ NB
section
variable {gv : Value} {PB KB NB B : Nat} {s : FSt} {w w' : World}
theorem Rf.keep (h : Rf PB KB NB B s gv w) (hz : w.heap.size ≤ w'.heap.size) (hk : ∀ b, RfF PB KB NB gv b → w'.heap[b]? = w.heap[b]?) : Rf PB KB NB B s gv w' := by
 refine ⟨by rw [hk PB (.inl rfl)]; exact h.hp, by rw [hk KB (.inr (.inl rfl))]; exact h.hk, by rw [hk NB (.inr (.inr (.inl rfl)))]; exact h.hn, ⟨h.own.1, ?_⟩, h.ne, h.ok, Nat.le_trans h.lo hz, h.df⟩
 rcases h.own.2 with h0 | ⟨g, cap, cur, rfl, h1, h2, h3⟩
 ·exact .inl h0
 ·exact .inr ⟨g, cap, cur, rfl, h1, by rw [hk g (.inr (.inr (.inr rfl)))]; exact h2, h3⟩
theorem Rf.lt (h : Rf PB KB NB B s gv w) {b : Nat} (hb : RfF PB KB NB gv b) : b < w.heap.size := by
 rcases hb with rfl | rfl | rfl | hb
 ·exact lt_of_heap h.hp
 ·exact lt_of_heap h.hk
 ·exact lt_of_heap h.hn
 ·exact (h.own.lt _ hb).2
theorem Rf.below (h : Rf PB KB NB B s gv w) (hb : Below w.heap.size w w') : Rf PB KB NB B s gv w' := h.keep hb.size fun b hf => hb.block b (h.lt hf)
end
def RfPost (PB KB NB B : Nat) (gv : Value) (W : World) (s : FSt) (fl : Bool) (e : Ending) (w' : World) : Prop :=
 ∃ gv', e = .returned (.bool fl) ∧ Rf PB KB NB B s gv' w' ∧ Chg (RfF PB KB NB gv) W w' ∧ ∀ b, RfF PB KB NB gv' b → RfF PB KB NB gv b ∨ W.heap.size ≤ b
def tryV (SB PB KB NB TB : Nat) : Value := .func (.func 93) #[] #[.pointer (some ⟨SB, 0, none⟩), .pointer (some ⟨PB, 0, none⟩), .pointer (some ⟨KB, 0, none⟩), .pointer (some ⟨NB, 0, none⟩), .pointer (some ⟨TB, 0, none⟩)]
structure RfAsk (m : Mk) (t : List (List Int)) (tv : Value) (SB PB KB NB TB B : Nat) (cuts : List (List Int)) (cv : Value) (l : List (Int × Int)) (gv : Value) (W : World) : Prop where
 rf : Rf PB KB NB B (l, 0) gv W
 ht : V2 (fun b => ¬ RfF PB KB NB gv b) W tv t
 hc : V2 (fun b => ¬ RfF PB KB NB gv b) W cv cuts
 hp : cuts = [] → PV cv
 sb : ∀ o, W.cell? ⟨SB, o, none⟩ = (#[.int .i64 m.c, .int .i64 m.d, .int .i64 m.s, .int .i64 m.e, .int .i64 m.l, tv] : Array Value)[o]?
 sf : ¬ RfF PB KB NB gv SB ∧ SB < W.heap.size
 tb : W.cell? ⟨TB, 0, none⟩ = some (tryV SB PB KB NB TB)
 tf : ¬ RfF PB KB NB gv TB
 ok : PartOk m t cuts
 lt : cuts.length < t.length
def TryAny (m : Mk) (t : List (List Int)) (tv : Value) (SB PB KB NB TB B d n : Nat) : Prop :=
 ∀ (cuts : List (List Int)) (cv : Value) (l : List (Int × Int)) (gv : Value) (W : World), cuts.length + d = t.length → RfAsk m t tv SB PB KB NB TB B cuts cv l gv W →
   Calls Tryz.prog 93 #[cv, .pointer (some ⟨SB, 0, none⟩), .pointer (some ⟨PB, 0, none⟩), .pointer (some ⟨KB, 0, none⟩), .pointer (some ⟨NB, 0, none⟩), .pointer (some ⟨TB, 0, none⟩)] W
    (RfPost PB KB NB B gv W (rfF n t (keysOf m) d cuts l) (decide ((rfF n t (keysOf m) d cuts l).2 = 0)))
theorem own_some2 {w : World} {B z : Nat} {e : TypeId} {v : Value} {n : Nat} {xs : List Value} (h : w.ownsRow B e z v (n + 1) xs) : ∃ g cap, v = .slice (some ⟨g, 0, none⟩) (n + 1) cap ∧ g < w.heap.size := by
 rcases h.2 with ⟨_, h0⟩ | ⟨g, cap, cur, rfl, _, hh, _⟩
 ·omega
 ·exact ⟨g, cap, rfl, lt_of_heap hh⟩
/-- A step more. -/
theorem rf_push {gv : Value} {PB KB NB B gg cap n : Nat} {l : List (Int × Int)} {x : Int × Int} {wy w8 : World}
  (h : Rf PB KB NB B (l, 0) gv wy) (hn : l.length = n) (hl : l.length < 1200)
  (hown8 : w8.ownsRow B 107 2 (.slice (some ⟨gg, 0, none⟩) (n + 1) cap) (n + 1) (flatS l ++ [.int .i64 x.1, .int .i64 x.2])) {wa : World} (ha : Below wy.heap.size wy wa) (hg : wa.grownBy w8 gv.ownBlock) (hat : gv.ownBlock = some gg ∨ wy.heap.size ≤ gg) (hglt : gg < w8.heap.size) :
  Rf PB KB NB B (l ++ [x], 0) (.slice (some ⟨gg, 0, none⟩) (n + 1) cap) (w8.setCell ⟨PB, 0, none⟩ (.slice (some ⟨gg, 0, none⟩) (n + 1) cap)) ∧
  Chg (RfF PB KB NB gv) wy (w8.setCell ⟨PB, 0, none⟩ (.slice (some ⟨gg, 0, none⟩) (n + 1) cap)) ∧
  ∀ b, RfF PB KB NB (.slice (some ⟨gg, 0, none⟩) (n + 1) cap) b → RfF PB KB NB gv b ∨ wy.heap.size ≤ b := by
 subst hn
 have hPl := lt_of_heap h.hp
 have hKl := lt_of_heap h.hk
 have hNl := lt_of_heap h.hn
 have haz := ha.size
 have hgn : ∀ b, b < wy.heap.size → gv.ownBlock ≠ some b → gg ≠ b := fun b hb hne e => by
  rcases hat with h1 | h1
  ·exact hne (e ▸ h1)
  ·omega
 have h8 : ∀ b, b < wy.heap.size → gv.ownBlock ≠ some b → w8.heap[b]? = wy.heap[b]? := fun b hb hne => (hg.block b (by omega) (fun e => hne e.symm)).trans (ha.block b hb)
 obtain ⟨hd1, hd2, hd3⟩ := h.df
 refine ⟨⟨?_, ?_, ?_, ?_, ?_, ?_, ?_, h.df⟩, ?_, ?_⟩
 ·rw [heap_setCell_self (by rw [h8 PB hPl h.ne.1]; exact h.hp)]; rfl
 ·rw [heap_setCell_other _ (fun e => hd1 e.symm), h8 KB hKl h.ne.2.1]; exact h.hk
 ·rw [heap_setCell_other _ (fun e => hd2 e.symm), h8 NB hNl h.ne.2.2]; exact h.hn
 ·have e : rfL (l ++ [x], 0) = l ++ [x] := by unfold rfL; rw [if_neg (by show ¬ (0 : Int) = 5; decide)]
  rw [e]
  have h1 : w8.ownsRow B 107 2 (.slice (some ⟨gg, 0, none⟩) (l.length + 1) cap) (l ++ [x]).length (flatS (l ++ [x])) := by rw [flatS_snoc, List.length_append]; exact hown8
  exact own_chgz h1 ((Chg.refl (fun b => b = PB) _).setCell (p := ⟨PB, 0, none⟩) (.inl rfl) _) (fun g hg e => by
   simp only [Value.ownBlock, Option.some.injEq] at hg
   exact hgn PB hPl h.ne.1 (hg.trans e))
 ·refine ⟨fun e => ?_, fun e => ?_, fun e => ?_⟩ <;> simp only [Value.ownBlock, Option.some.injEq] at e
  ·exact hgn _ hPl h.ne.1 e
  ·exact hgn _ hKl h.ne.2.1 e
  ·exact hgn _ hNl h.ne.2.2 e
 ·exact ⟨by show (l ++ [x]).length ≤ _; rw [List.length_append]; simp only [List.length_cons, List.length_nil]; omega, .inl rfl⟩
 ·have := hg.size; simp only [World.size_setCell]; have := h.lo; omega
 ·exact (((Chg.of_below ha).grown hg (fun k hk => .inl (.inr (.inr (.inr hk)))))).setCell (p := ⟨PB, 0, none⟩) (.inl (.inl rfl)) _
 ·rintro b (h1 | h1 | h1 | h1)
  ·exact .inl (.inl h1)
  ·exact .inl (.inr (.inl h1))
  ·exact .inl (.inr (.inr (.inl h1)))
  ·simp only [Value.ownBlock, Option.some.injEq] at h1
   subst h1
   rcases hat with h2 | h2
   ·exact .inl (.inr (.inr (.inr h2)))
   ·exact .inr h2
theorem rf_found {gv : Value} {PB KB NB B : Nat} {l : List (Int × Int)} {w : World} (h : Rf PB KB NB B (l ++ [(-1, 0)], 0) gv w) : Rf PB KB NB B (l, 5) gv (w.setCell ⟨NB, 0, none⟩ (.bool true)) := by
 obtain ⟨hd1, hd2, hd3⟩ := h.df
 have h2 := h.ok.1
 refine ⟨by rw [heap_setCell_other _ hd2]; exact h.hp, by rw [heap_setCell_other _ hd3]; exact h.hk, by rw [heap_setCell_self h.hn]; rfl, ?_, h.ne, ⟨by have h3 : (l ++ [((-1 : Int), (0 : Int))]).length ≤ 1200 := h2; rw [List.length_append] at h3; show l.length ≤ 1200; omega, .inr (.inr rfl)⟩, by simpa using h.lo, h.df⟩
 exact own_chgz h.own ((Chg.refl (fun b => b = NB) _).setCell (p := ⟨NB, 0, none⟩) (.inl rfl) _) (fun g hg e => h.ne.2.2 (e ▸ hg))
theorem rf_still {gv : Value} {PB KB NB B : Nat} {l : List (Int × Int)} {w : World} (h : Rf PB KB NB B (l, 0) gv w) : Rf PB KB NB B (l, 0) gv (w.setCell ⟨NB, 0, none⟩ (.bool false)) := by
 obtain ⟨hd1, hd2, hd3⟩ := h.df
 refine ⟨by rw [heap_setCell_other _ hd2]; exact h.hp, by rw [heap_setCell_other _ hd3]; exact h.hk, by rw [heap_setCell_self h.hn]; rfl, ?_, h.ne, h.ok, by simpa using h.lo, h.df⟩
 exact own_chgz h.own ((Chg.refl (fun b => b = NB) _).setCell (p := ⟨NB, 0, none⟩) (.inl rfl) _) (fun g hg e => h.ne.2.2 (e ▸ hg))
set_option maxRecDepth 100000 in
set_option maxHeartbeats 2000000 in
theorem refv_any {S Far : Nat → Prop} (m : Mk) (t : List (List Int)) (n : Nat) (hn : (n : Int) = m.c) (tv cv kv gv : Value) (SB PB KB NB TB CB B d : Nat) (cuts : List (List Int)) (key : List Int) (l : List (Int × Int)) (w : World)
  (hp : PartOk m t cuts) (hl : cuts.length < t.length) (hcd : cuts.length + (d + 1) = t.length) (IH : TryAny m t tv SB PB KB NB TB B d n)
  (hR : Rf PB KB NB B (l, 0) gv w) (hfar : ∀ b, Far b → ¬ RfF PB KB NB gv b ∧ b < w.heap.size)
  (hsb : ∀ o, w.cell? ⟨SB, o, none⟩ = (#[.int .i64 m.c, .int .i64 m.d, .int .i64 m.s, .int .i64 m.e, .int .i64 m.l, tv] : Array Value)[o]?) (fs : Far SB) (htb : w.cell? ⟨TB, 0, none⟩ = some (tryV SB PB KB NB TB)) (ft : Far TB) (hcb : w.cell? ⟨CB, 0, none⟩ = some cv) (fc : Far CB)
  (ht : V2 Far w tv t) (hc : V2 Far w cv cuts) (hcp : cuts = [] → PV cv) (hk : V1 S w kv key) (hkey : isKeyB m key = true) :
  Calls Tryz.prog 95 #[kv, .pointer (some ⟨PB, 0, none⟩), .pointer (some ⟨KB, 0, none⟩), .pointer (some ⟨CB, 0, none⟩), .pointer (some ⟨SB, 0, none⟩), .pointer (some ⟨NB, 0, none⟩), .pointer (some ⟨TB, 0, none⟩)] w
   (RfPost PB KB NB B gv w (rfStep n t (rfF n t (keysOf m) d) cuts (l, 0) key).1 (rfStep n t (rfF n t (keysOf m) d) cuts (l, 0) key).2) := by
 obtain ⟨iS, hiS, hzS0, hzS1, hzS2⟩ := info_parts inf_step
 obtain ⟨ta, tc, rfl, htm⟩ := ht.form
 obtain ⟨ca, cc, rfl, hcm⟩ := hc.form
 obtain ⟨ka, kc, rfl, hkm⟩ := hk.form
 have hown := hR.own
 have eL : rfL (l, 0) = l := by unfold rfL; rw [if_neg (by show ¬ (0 : Int) = 5; decide)]
 rw [eL] at hown
 obtain ⟨ga, gc, rfl, hg1, hg2⟩ := own_formz hown
 have hll := hR.ok.1
 have hP : w.cell? ⟨PB, 0, none⟩ = some (.slice ga l.length gc) := by rw [cell_of_block hR.hp]; rfl
 have hK : w.cell? ⟨KB, 0, none⟩ = some (.bool false) := by rw [cell_of_block hR.hk]; rfl
 have fK := frozen_of_block hR.hk 0
 have HFar := Lib.hid hfar
 by_cases hA : l.length = 1200
 ·have hres : rfStep n t (rfF n t (keysOf m) d) cuts (l, 0) key = ((l, 3), false) := by unfold rfStep; rw [if_pos hA]
  rw [hres]
  have e1 : ((l.length : Int) == 1200) = true := by rw [beq_iff_eq]; omega
  have H := Lib.hid (And.intro hR (And.intro hA hres)); clear hR hA hres ht hc hk IH hp hown hfar eL
  go_enter Tryz.func95, Tryz.ntmps95
  go_wp2_with fail
  go_ret
  have hRR := H.out.1
  obtain ⟨hd1, hd2, hd3⟩ := hRR.df
  refine ⟨_, rfl, ⟨by rw [heap_setCell_other _ hd1]; exact hRR.hp, by rw [heap_setCell_self hRR.hk]; rfl, by rw [heap_setCell_other _ (fun e => hd3 e.symm)]; exact hRR.hn, ?_, hRR.ne, ⟨hRR.ok.1, .inr (.inl rfl)⟩, by simpa using hRR.lo, hRR.df⟩, (Chg.refl _ _).setCell (p := ⟨KB, 0, none⟩) (.inl (.inr (.inl rfl))) _, fun b hb => .inl hb⟩
  exact own_chgz hRR.own ((Chg.refl (fun b => b = KB) _).setCell (p := ⟨KB, 0, none⟩) (.inl rfl) _) (fun g hg e => hRR.ne.2.1 (e ▸ hg))
 ·have e1 : ((l.length : Int) == 1200) = false := by rw [beq_eq_false_iff_ne]; omega
  have hkl : key.length ≤ 1048576 := by
   have := (isKey_iff.1 hkey).1
   have := Mk.ok_iff.1 hp.fits.ok
   omega
  have hcl : cuts.length ≤ 1000000 := by have := hp.fits.rows; omega
  have hstep : rfStep n t (rfF n t (keysOf m) d) cuts (l, 0) key = if 0 < (falseL n t (cuts ++ [key])).length then ((l ++ [firstStep (falseL n t (cuts ++ [key]))], 0), true) else if cuts.length + 1 = t.length then ((l, 5), false) else (rfF n t (keysOf m) d (cuts ++ [key]) (l ++ [(-1, 0)]), decide ((rfF n t (keysOf m) d (cuts ++ [key]) (l ++ [(-1, 0)])).2 = 0)) := by unfold rfStep; rw [if_neg hA]
  have H := Lib.hid (And.intro hR (And.intro hA (And.intro ht (And.intro hc (And.intro hk (And.intro IH (And.intro hp (And.intro hown (And.intro eL hstep))))))))); clear hR hA ht IH hp hown eL hstep hfar
  go_enter Tryz.func95, Tryz.ntmps95
  go_wp2_with fail
  refine (slClone2_any _ cuts _ hc hcp hcl).mono ?_
  rintro e' w2 ⟨v2, vs2, rfl, hown2, hvs2, hb2⟩
  obtain ⟨a2, c2, rfl, h21, h22⟩ := own_form hown2
  go_wp2_with fail
  refine (slClone_any _ key _ (hk.below hb2) hkl).mono ?_
  rintro e' w3 ⟨v3, rfl, hF3, hb3⟩
  obtain ⟨a3, c3, rfl, _⟩ := hF3.v1.form
  have hz2 := hb2.size
  have hb03 := hb2.trans (hb3.mono hz2)
  have hz3 := hb03.size
  have hown3 : w3.ownsRow w.heap.size 44 1 (.slice a2 cuts.length c2) cuts.length vs2 := own_keep hown2 hb3
  have hvs3 := hvs2.below hb3
  go_wp2_with ((at_builtin; refine wp_app1 _ rfl _ _ 24 rfl w.heap.size 44 (.slice none 0 0) 24 Tryz.underlying24 inf_ints rfl _ _ _ rfl hown3 (.slice a3 key.length c3) _ rfl rfl (by omega) (by omega) (by omega) ?_; intro v1 w1 hown1 hgrow1 hblk1 hB1); have hx1 : ∀ o, w1.cell? ⟨SB, o, none⟩ = (#[.int .i64 m.c, .int .i64 m.d, .int .i64 m.s, .int .i64 m.e, .int .i64 m.l, .slice ta t.length tc] : Array Value)[o]? := (fun o => by rw [(bcell (hb03.trans (hB1.mono (by omega)))).1 _ _ (HFar.out SB fs).2, hsb]))
  have hb04 : Below w.heap.size w w1 := hb03.trans (hB1.mono (by omega))
  have hV3 : V1 (fun b => w2.heap.size ≤ b) w1 (.slice a3 key.length c3) key := hF3.v1.mono (fun _ h _ => h) (grow_keep hgrow1 (fun g hg hS => by have := (hown2.lt g hg).2; omega))
  have hvs1 : RowVs (fun b => Far b ∨ w.heap.size ≤ b) w1 vs2 cuts := ⟨hvs3.1, fun k hk => by obtain ⟨ev, g1, g2⟩ := hvs3.2 k hk; exact ⟨ev, g1, g2.mono (fun b hb _ => .inl hb) (fun b hb _ => hB1.block b (HFar.out b hb).2)⟩⟩
  have hM : V2 (fun b => (Far b ∨ w.heap.size ≤ b) ∨ w.heap.size ≤ b) w1 v1 (cuts ++ [key]) := own_V2S hown1 (hvs1.snoc (hV3.mono (fun b hb _ => .inr (Nat.le_trans hz2 hb)) (fun _ _ _ => rfl)))
  have hMlt : cuts.length + 1 = (cuts ++ [key]).length := by simp
  obtain ⟨ma, mc, rfl, hmm⟩ := hM.form
  rw [← hMlt] at hM ⊢
  have hpf := partFaults_any m (.slice ta t.length tc) (.slice ma (cuts.length + 1) mc) t (cuts ++ [key]) n w1 (H.out.2.2.2.2.2.2.1.more hl hkey).fits hn (H.out.2.2.1.below hb04) hM
  have hget := fun (hk : 0 < (falseL n t (cuts ++ [key])).length) => falseL_get hk
  have hst := H.out.2.2.2.2.2.2.2.2.2
  obtain ⟨LL, hLL⟩ : ∃ L, falseL n t (cuts ++ [key]) = L := ⟨_, rfl⟩
  rw [hLL] at hpf hget hst
  have HM := Lib.hid (And.intro hM (And.intro hb04 (And.intro hst hget))); clear hM hst hget hLL hV3 hvs1 hown1 hgrow1 hblk1 hB1 hown3 hown2 hvs3 hvs2 hF3 hb3 hb2 hc hk hMlt
  refine hpf.mono ?_
  rintro e' w5 ⟨v5, rfl, hF5, hb5⟩
  obtain ⟨a5, c5, rfl, hm5⟩ := hF5.v2.form
  have hb05 := hb04.trans (hb5.mono hb04.size)
  have hz5 := hb05.size
  have hz15 := hb5.size
  have hR5 := H.out.1.below hb05
  have hPl5 := lt_of_heap hR5.hp
  have hown5 := hR5.own
  rw [H.out.2.2.2.2.2.2.2.2.1] at hown5
  have hP5 : w5.cell? ⟨PB, 0, none⟩ = some (.slice ga l.length gc) := by rw [cell_of_block hR5.hp]; rfl
  have hneP := hR5.ne.1
  have hl12 : l.length < 1200 := by have := H.out.2.1; omega
  have Hb5 := Lib.hid hb5
  clear hb5 hb03
  by_cases hLp : 0 < LL.length
  ·have hLi : (0 : Int) < (LL.length : Int) := by omega
   have hst := HM.out.2.2.1
   rw [if_pos hLp] at hst
   obtain ⟨fi, fd, _, _, hrow, _, _⟩ := HM.out.2.2.2 hLp
   obtain ⟨y, hy⟩ : ∃ y, firstStep LL = y := ⟨_, rfl⟩
   rw [hy] at hst
   have hy1 : y = ((fi : Int), (fd : Int)) := by rw [← hy]; unfold firstStep; rw [hrow]; rfl
   obtain ⟨b4, off4, a4, c4, rfl, hS4, hc4, hr4⟩ := hF5.v2.cell hLp
   rw [hrow] at hc4 hr4
   obtain ⟨b5, off5, rfl, hS5, hc5⟩ := hr4.cell (k := 0) (by simp)
   obtain ⟨b6, off6, e6, _, hc6⟩ := hr4.cell (k := 1) (by simp)
   obtain ⟨rfl, rfl⟩ : b5 = b6 ∧ off5 = off6 := by simpa using e6
   have hb4l := lt_of_cell hc4
   have hb5l := lt_of_cell hc5
   simp only [geti, List.getD_cons_zero, List.getD_cons_succ, List.length_cons, List.length_nil, Nat.add_zero, Nat.zero_add] at hc4 hc5 hc6 hb4l hb5l
   have hye1 : ((fi : Int)) = y.1 := by rw [hy1]
   have hye2 : ((fd : Int)) = y.2 := by rw [hy1]
   rw [hye1] at hc5
   rw [hye2] at hc6
   clear hye1 hye2 hy1 hy hrow
   have Hst := Lib.hid hst; clear hst
   have hgl : ∀ b, Value.ownBlock (.slice ga l.length gc) = some b → b < w.heap.size := fun b hb => H.out.1.lt (.inr (.inr (.inr hb)))
   have hz14 := hb04.size
   have hgb4 : Value.ownBlock (.slice ga l.length gc) ≠ some b4 := fun e => by have := hgl b4 e; omega
   have hgb5 : Value.ownBlock (.slice ga l.length gc) ≠ some b5 := fun e => by have := hgl b5 e; omega
   have hPlw := lt_of_heap H.out.1.hp
   have hb4P : b4 ≠ PB := fun e => by omega
   have hb5P : b5 ≠ PB := fun e => by omega
   have hP5a : ∀ o, (w5.alloc o).cell? ⟨PB, 0, none⟩ = some (.slice ga l.length gc) := fun o => cell_keep hP5 (Below.heap_alloc w5 o PB hPl5)
   have hS0 := And.intro hc4 (And.intro hc5 hc6)
   have hS1 := fun o => And.intro (cell_keep hc4 (Below.heap_alloc w5 o b4 hb4l)) (And.intro (cell_keep hc5 (Below.heap_alloc w5 o b5 hb5l)) (cell_keep hc6 (Below.heap_alloc w5 o b5 hb5l)))
   have hlo5 := hR5.lo
   clear hF5 hr4 e6 hgl
   dsimp only
   go_wp2_with fail
   refine wp_region_noPanic ?_
   refine wp_region_held_drew (S := fun w' => w'.cell? ⟨b4, off4, none⟩ = some (.slice (some ⟨b5, off5, none⟩) 2 c4) ∧ w'.cell? ⟨b5, off5, none⟩ = some (.int .i64 y.1) ∧ w'.cell? ⟨b5, off5 + 1, none⟩ = some (.int .i64 y.2)) (by kernel_rfl) hS0 (fun hHeld => ?_)
   (refine wpAnyH_take (i := 1) (v := .slice (some ⟨b4, off4, none⟩) LL.length c5) rfl (by kernel_rfl) (by kernel_rfl) (by kernel_rfl) (fun _ _ _ h => h) (Or.inl ⟨by kernel_rfl, fun w hSw => by (try dsimp only at hSw); go_split_ands; go_simp⟩) (by assumption) ?_; simp only [Act.put, List.setIfInBounds_toArray, List.set_cons_zero, List.set_cons_succ])
   (refine wpAnyH_take (i := 2) (v := .pointer (some ⟨b4, off4, none⟩)) rfl (by kernel_rfl) (by kernel_rfl) (by kernel_rfl) (fun _ _ _ h => h) (Or.inl ⟨by kernel_rfl, fun w hSw => by (try dsimp only at hSw); go_split_ands; go_simp⟩) (by assumption) ?_; simp only [Act.put, List.setIfInBounds_toArray, List.set_cons_zero, List.set_cons_succ])
   (refine wpAnyH_take (i := 3) (v := .slice (some ⟨b5, off5, none⟩) 2 c4) rfl (by kernel_rfl) (by kernel_rfl) (by kernel_rfl) (fun _ _ _ h => h) (Or.inl ⟨by kernel_rfl, fun w hSw => by (try dsimp only at hSw); go_split_ands; go_simp⟩) (by assumption) ?_; simp only [Act.put, List.setIfInBounds_toArray, List.set_cons_zero, List.set_cons_succ])
   (refine wpAnyH_take (i := 4) (v := .pointer (some ⟨b5, off5, none⟩)) rfl (by kernel_rfl) (by kernel_rfl) (by kernel_rfl) (fun _ _ _ h => h) (Or.inl ⟨by kernel_rfl, fun w hSw => by (try dsimp only at hSw); go_split_ands; go_simp⟩) (by assumption) ?_; simp only [Act.put, List.setIfInBounds_toArray, List.set_cons_zero, List.set_cons_succ])
   (refine wpAnyH_take (i := 5) (v := .int .i64 y.1) rfl (by kernel_rfl) (by kernel_rfl) (by kernel_rfl) (fun _ _ _ h => h) (Or.inl ⟨by kernel_rfl, fun w hSw => by (try dsimp only at hSw); go_split_ands; go_simp⟩) (by assumption) ?_; simp only [Act.put, List.setIfInBounds_toArray, List.set_cons_zero, List.set_cons_succ])
   (refine wpAnyH_take (i := 6) (v := .slice (some ⟨b4, off4, none⟩) LL.length c5) rfl (by kernel_rfl) (by kernel_rfl) (by kernel_rfl) (fun _ _ _ h => h) (Or.inl ⟨by kernel_rfl, fun w hSw => by (try dsimp only at hSw); go_split_ands; go_simp⟩) (by assumption) ?_; simp only [Act.put, List.setIfInBounds_toArray, List.set_cons_zero, List.set_cons_succ])
   (refine wpAnyH_take (i := 7) (v := .pointer (some ⟨b4, off4, none⟩)) rfl (by kernel_rfl) (by kernel_rfl) (by kernel_rfl) (fun _ _ _ h => h) (Or.inl ⟨by kernel_rfl, fun w hSw => by (try dsimp only at hSw); go_split_ands; go_simp⟩) (by assumption) ?_; simp only [Act.put, List.setIfInBounds_toArray, List.set_cons_zero, List.set_cons_succ])
   (refine wpAnyH_take (i := 8) (v := .slice (some ⟨b5, off5, none⟩) 2 c4) rfl (by kernel_rfl) (by kernel_rfl) (by kernel_rfl) (fun _ _ _ h => h) (Or.inl ⟨by kernel_rfl, fun w hSw => by (try dsimp only at hSw); go_split_ands; go_simp⟩) (by assumption) ?_; simp only [Act.put, List.setIfInBounds_toArray, List.set_cons_zero, List.set_cons_succ])
   (refine wpAnyH_take (i := 9) (v := .pointer (some ⟨b5, off5 + 1, none⟩)) rfl (by kernel_rfl) (by kernel_rfl) (by kernel_rfl) (fun _ _ _ h => h) (Or.inl ⟨by kernel_rfl, fun w hSw => by (try dsimp only at hSw); go_split_ands; go_simp⟩) (by assumption) ?_; simp only [Act.put, List.setIfInBounds_toArray, List.set_cons_zero, List.set_cons_succ])
   (refine wpAnyH_take (i := 10) (v := .int .i64 y.2) rfl (by kernel_rfl) (by kernel_rfl) (by kernel_rfl) (fun _ _ _ h => h) (Or.inl ⟨by kernel_rfl, fun w hSw => by (try dsimp only at hSw); go_split_ands; go_simp⟩) (by assumption) ?_; simp only [Act.put, List.setIfInBounds_toArray, List.set_cons_zero, List.set_cons_succ])
   (refine wpAnyH_take (i := 11) (v := .agg #[.int .i64 y.1, .int .i64 y.2]) rfl (by kernel_rfl) (by kernel_rfl) (by kernel_rfl) (fun _ _ _ h => h) (Or.inl ⟨by kernel_rfl, fun w hSw => by (try dsimp only at hSw); go_split_ands; go_simp⟩) (by assumption) ?_; simp only [Act.put, List.setIfInBounds_toArray, List.set_cons_zero, List.set_cons_succ])
   refine wpAnyH_ready (rs := [0, 12]) (by kernel_rfl) (by simp) (AllReadyH.cons rfl (fun K hK => ?_) (AllReadyH.cons rfl (fun K hK => ?_) AllReadyH.nil))
   ·go_simp
    (refine hK.out _ _ hS0 (fun hHeld => ?_); clear hK K; (try simp only [Act.put, List.setIfInBounds_toArray, List.set_cons_zero, List.set_cons_succ]))
    (refine wpAnyH_ready (rs := [12]) (by kernel_rfl) (by simp) (AllReadyH.cons rfl (fun K hK => ?_) AllReadyH.nil); go_simp)
    (refine hK.out _ _ (hS1 _) (fun hHeld => ?_); clear hK K; (try simp only [Act.put, List.setIfInBounds_toArray, List.set_cons_zero, List.set_cons_succ]))
    refine wpAnyH_ready (rs := [13]) (by kernel_rfl) (by simp) (AllReadyH.cons rfl (fun K hK => ?_) AllReadyH.nil)
    refine step_append_lies _ (by rfl) _ _ _ (by rfl) B 107 iS _ 2 16 Tryz.underlying59 hiS hzS0 hzS1 hzS2 rfl (by omega) _ l.length _ (by rfl) (hown5.alloc _) ⟨_, 0, none⟩ 1 1 [.int .i64 y.1, .int .i64 y.2] (by rfl) (by rfl) (World.news_of_block (heap_alloc_new _ _)) (by simp [Value.oneCell']) (by omega) (by unfold maxLen; omega) (by omega) (by simp; omega) _ rfl ?_
    intro gg cap w8 hown8 hgrow8 hat8 hlt8
    have hh8 : w8.heap[PB]? = some (.cells #[.slice ga l.length gc] 59 (0, 0)) := by rw [hgrow8.block PB (by simp; omega) (fun e => hneP e.symm)]; exact (Below.heap_alloc w5 _ PB hPl5).trans hR5.hp
    have h88 : w8.cell? ⟨PB, 0, none⟩ = some (.slice ga l.length gc) := by rw [cell_of_block hh8]; rfl
    have h8f := frozen_of_block hh8 0
    have hS8 := And.intro (cell_keep (hS1 _).1 (hgrow8.block b4 (by simp; omega) (fun e => hgb4 e.symm))) (And.intro (cell_keep (hS1 _).2.1 (hgrow8.block b5 (by simp; omega) (fun e => hgb5 e.symm))) (cell_keep (hS1 _).2.2 (hgrow8.block b5 (by simp; omega) (fun e => hgb5 e.symm))))
    (refine hK.out _ _ hS8 (fun hHeld => ?_); clear hK K; (try simp only [Act.put, List.setIfInBounds_toArray, List.set_cons_zero, List.set_cons_succ]))
    (refine wpAnyH_ready (rs := [14]) (by kernel_rfl) (by simp) (AllReadyH.cons rfl (fun K hK => ?_) AllReadyH.nil); go_simp)
    have hS9 := And.intro (cell_keep hS8.1 (heap_setCell_other (b := PB) (off := 0) (.slice (some ⟨gg, 0, none⟩) (l.length + 1) cap) hb4P)) (And.intro (cell_keep hS8.2.1 (heap_setCell_other (b := PB) (off := 0) (.slice (some ⟨gg, 0, none⟩) (l.length + 1) cap) hb5P)) (cell_keep hS8.2.2 (heap_setCell_other (b := PB) (off := 0) (.slice (some ⟨gg, 0, none⟩) (l.length + 1) cap) hb5P)))
    (refine hK.out _ _ hS9 (fun hHeld => ?_); clear hK K; (try simp only [Act.put, List.setIfInBounds_toArray, List.set_cons_zero, List.set_cons_succ]))
    refine wpAnyH_done (by kernel_rfl) (NoPanic.normal ?_) _
    obtain ⟨hP1, hP2, hP3⟩ := rf_push (x := y) hR5 rfl (by omega) hown8 (((Below.refl _ w5).alloc (Nat.le_refl _) _).drew) hgrow8 (by rcases hat8 with h | h; exact .inl h; right; rw [h]; simp) hlt8
    have HP := Lib.hid (And.intro hP1 (And.intro ((Chg.of_below hb05).trans hP2 (fun i hi => .inl hi)) (fun b hb => by rcases hP3 b hb with h | h; exact .inl h; right; omega : ∀ b, RfF PB KB NB (.slice (some ⟨gg, 0, none⟩) (l.length + 1) cap) b → RfF PB KB NB (.slice ga l.length gc) b ∨ w.heap.size ≤ b)))
    clear hP1 hP2 hP3 hown8 hgrow8 hat8 hlt8 hh8 h88 h8f hS8 hS9 hS0 hS1 hown5
    go_wp2_with fail
    go_ret
    (try rw [Hst.out])
    exact ⟨_, rfl, HP.out.1, HP.out.2.1, HP.out.2.2⟩
   ·go_simp
    (refine hK.out _ _ (hS1 _) (fun hHeld => ?_); clear hK K; (try simp only [Act.put, List.setIfInBounds_toArray, List.set_cons_zero, List.set_cons_succ]))
    (refine wpAnyH_ready (rs := [0]) (by kernel_rfl) (by simp) (AllReadyH.cons rfl (fun K hK => ?_) AllReadyH.nil); go_simp)
    (refine hK.out _ _ (hS1 _) (fun hHeld => ?_); clear hK K; (try simp only [Act.put, List.setIfInBounds_toArray, List.set_cons_zero, List.set_cons_succ]))
    refine wpAnyH_ready (rs := [13]) (by kernel_rfl) (by simp) (AllReadyH.cons rfl (fun K hK => ?_) AllReadyH.nil)
    refine step_append_lies _ (by rfl) _ _ _ (by rfl) B 107 iS _ 2 16 Tryz.underlying59 hiS hzS0 hzS1 hzS2 rfl (by omega) _ l.length _ (by rfl) (hown5.alloc _) ⟨_, 0, none⟩ 1 1 [.int .i64 y.1, .int .i64 y.2] (by rfl) (by rfl) (World.news_of_block (heap_alloc_new _ _)) (by simp [Value.oneCell']) (by omega) (by unfold maxLen; omega) (by omega) (by simp; omega) _ rfl ?_
    intro gg cap w8 hown8 hgrow8 hat8 hlt8
    have hh8 : w8.heap[PB]? = some (.cells #[.slice ga l.length gc] 59 (0, 0)) := by rw [hgrow8.block PB (by simp; omega) (fun e => hneP e.symm)]; exact (Below.heap_alloc w5 _ PB hPl5).trans hR5.hp
    have h88 : w8.cell? ⟨PB, 0, none⟩ = some (.slice ga l.length gc) := by rw [cell_of_block hh8]; rfl
    have h8f := frozen_of_block hh8 0
    have hS8 := And.intro (cell_keep (hS1 _).1 (hgrow8.block b4 (by simp; omega) (fun e => hgb4 e.symm))) (And.intro (cell_keep (hS1 _).2.1 (hgrow8.block b5 (by simp; omega) (fun e => hgb5 e.symm))) (cell_keep (hS1 _).2.2 (hgrow8.block b5 (by simp; omega) (fun e => hgb5 e.symm))))
    (refine hK.out _ _ hS8 (fun hHeld => ?_); clear hK K; (try simp only [Act.put, List.setIfInBounds_toArray, List.set_cons_zero, List.set_cons_succ]))
    (refine wpAnyH_ready (rs := [14]) (by kernel_rfl) (by simp) (AllReadyH.cons rfl (fun K hK => ?_) AllReadyH.nil); go_simp)
    have hS9 := And.intro (cell_keep hS8.1 (heap_setCell_other (b := PB) (off := 0) (.slice (some ⟨gg, 0, none⟩) (l.length + 1) cap) hb4P)) (And.intro (cell_keep hS8.2.1 (heap_setCell_other (b := PB) (off := 0) (.slice (some ⟨gg, 0, none⟩) (l.length + 1) cap) hb5P)) (cell_keep hS8.2.2 (heap_setCell_other (b := PB) (off := 0) (.slice (some ⟨gg, 0, none⟩) (l.length + 1) cap) hb5P)))
    (refine hK.out _ _ hS9 (fun hHeld => ?_); clear hK K; (try simp only [Act.put, List.setIfInBounds_toArray, List.set_cons_zero, List.set_cons_succ]))
    refine wpAnyH_done (by kernel_rfl) (NoPanic.normal ?_) _
    obtain ⟨hP1, hP2, hP3⟩ := rf_push (x := y) hR5 rfl (by omega) hown8 (((Below.refl _ w5).alloc (Nat.le_refl _) _).drew) hgrow8 (by rcases hat8 with h | h; exact .inl h; right; rw [h]; simp) hlt8
    have HP := Lib.hid (And.intro hP1 (And.intro ((Chg.of_below hb05).trans hP2 (fun i hi => .inl hi)) (fun b hb => by rcases hP3 b hb with h | h; exact .inl h; right; omega : ∀ b, RfF PB KB NB (.slice (some ⟨gg, 0, none⟩) (l.length + 1) cap) b → RfF PB KB NB (.slice ga l.length gc) b ∨ w.heap.size ≤ b)))
    clear hP1 hP2 hP3 hown8 hgrow8 hat8 hlt8 hh8 h88 h8f hS8 hS9 hS0 hS1 hown5
    go_wp2_with fail
    go_ret
    (try rw [Hst.out])
    exact ⟨_, rfl, HP.out.1, HP.out.2.1, HP.out.2.2⟩
  ·have hLi : ¬ (0 : Int) < (LL.length : Int) := by omega
   have hst := HM.out.2.2.1
   rw [if_neg hLp] at hst
   have hN5 : w5.cell? ⟨NB, 0, none⟩ = some (.bool false) := by rw [cell_of_block hR5.hn]; rfl
   have hNl5 := lt_of_heap hR5.hn
   have hneN := hR5.ne.2.2
   obtain ⟨hd1, hd2, hd3⟩ := hR5.df
   have hS5 : w5.cell? ⟨SB, 5, none⟩ = some (.slice ta t.length tc) := by rw [(bcell hb05).1 _ _ (HFar.out SB fs).2, hsb]; rfl
   have hwl := H.out.1
   have hSP : ¬ SB = PB := fun e => (HFar.out SB fs).1 (.inl e)
   have hSN : ¬ SB = NB := fun e => (HFar.out SB fs).1 (.inr (.inr (.inl e)))
   have hTP : ¬ TB = PB := fun e => (HFar.out TB ft).1 (.inl e)
   have hTN : ¬ TB = NB := fun e => (HFar.out TB ft).1 (.inr (.inr (.inl e)))
   have hNP : ¬ NB = PB := fun e => hd2 e.symm
   have hPN : ¬ PB = NB := hd2
   have hgS : Value.ownBlock (.slice ga l.length gc) ≠ some SB := fun e => (HFar.out SB fs).1 (.inr (.inr (.inr e)))
   have hgT : Value.ownBlock (.slice ga l.length gc) ≠ some TB := fun e => (HFar.out TB ft).1 (.inr (.inr (.inr e)))
   have hSl := (HFar.out SB fs).2
   have hTl := (HFar.out TB ft).2
   have hT5 : w5.cell? ⟨TB, 0, none⟩ = some (.func (.func 93) #[] #[.pointer (some ⟨SB, 0, none⟩), .pointer (some ⟨PB, 0, none⟩), .pointer (some ⟨KB, 0, none⟩), .pointer (some ⟨NB, 0, none⟩), .pointer (some ⟨TB, 0, none⟩)]) := cell_keep htb (hb05.block _ hTl)
   have hlo5 := hR5.lo
   have hbA : Below w5.heap.size w5 (w5.alloc (.cells #[.int .i64 (-1), .int .i64 0] 107)) := (Below.refl _ _).alloc (Nat.le_refl _) _
   have hzA : (w5.alloc (.cells #[.int .i64 (-1), .int .i64 0] 107)).heap.size = w5.heap.size + 1 := by simp
   have HR5 := Lib.hid hR5; clear hR5 hF5
   have Hst0 := Lib.hid hst; clear hst
   by_cases hmo : cuts.length + 1 = t.length
   ·have e2 : ((cuts.length : Int) + 1 == (t.length : Int)) = true := by rw [beq_iff_eq]; omega
    have hst := Hst0.out
    rw [if_pos hmo] at hst
    have Hst := Lib.hid hst; clear hst
    go_wp2_with (at_builtin; refine wp_app rfl _ _ 59 rfl B 107 (.agg #[.int .i64 0, .int .i64 0]) 2 16 Tryz.underlying59 inf_step rfl (by omega) _ _ _ rfl (hown5.alloc _) ⟨_, 0, none⟩ 1 1 [.int .i64 (-1), .int .i64 0] rfl rfl (World.news_of_block (heap_alloc_new _ _)) (by simp [Value.oneCell']) (by unfold maxLen; omega) (by omega) (by omega) ?_; intro v8 w8 hown8 hgrow8 hblk8; obtain ⟨gg, cap, rfl, hglt⟩ := own_some2 hown8; have h8P : w8.cell? ⟨PB, 0, none⟩ = some (.slice ga l.length gc) := (cell_keep hP5 ((hgrow8.block PB (by omega) (fun e => hneP e.symm)).trans (hbA.block PB hPl5))); have h8N : w8.cell? ⟨NB, 0, none⟩ = some (.bool false) := (cell_keep hN5 ((hgrow8.block NB (by omega) (fun e => hneN e.symm)).trans (hbA.block NB hNl5))); have h8S : w8.cell? ⟨SB, 5, none⟩ = some (.slice ta t.length tc) := (cell_keep hS5 ((hgrow8.block SB (by omega) (fun e => hgS e.symm)).trans (hbA.block SB (by omega)))); have h8T : w8.cell? ⟨TB, 0, none⟩ = some (.func (.func 93) #[] #[.pointer (some ⟨SB, 0, none⟩), .pointer (some ⟨PB, 0, none⟩), .pointer (some ⟨KB, 0, none⟩), .pointer (some ⟨NB, 0, none⟩), .pointer (some ⟨TB, 0, none⟩)]) := (cell_keep hT5 ((hgrow8.block TB (by omega) (fun e => hgT e.symm)).trans (hbA.block TB (by omega)))); have f8P : w8.frozen? ⟨PB, 0, none⟩ = false := (frozen_of_block ((hgrow8.block PB (by omega) (fun e => hneP e.symm)).trans ((hbA.block PB hPl5).trans HR5.out.hp)) 0); have f8N : w8.frozen? ⟨NB, 0, none⟩ = false := (frozen_of_block ((hgrow8.block NB (by omega) (fun e => hneN e.symm)).trans ((hbA.block NB hNl5).trans HR5.out.hn)) 0))
    obtain ⟨hP1, hP2, hP3⟩ := rf_push (x := (-1, 0)) HR5.out rfl hl12 hown8 hbA hgrow8 (by rcases hblk8 with h | h; exact .inl (h.symm.trans rfl); right; simp only [Value.ownBlock, Option.some.injEq] at h; omega) hglt
    have hQ1 := rf_found hP1
    have hQ2 := ((Chg.of_below hb05).trans hP2 (fun i hi => .inl hi)).setCell (p := ⟨NB, 0, none⟩) (.inl (.inr (.inr (.inl rfl)))) (.bool true)
    have HP := Lib.hid (And.intro hQ1 (And.intro hQ2 (fun b hb => by rcases hP3 b hb with h | h; exact .inl h; right; omega : ∀ b, RfF PB KB NB (.slice (some ⟨gg, 0, none⟩) (l.length + 1) cap) b → RfF PB KB NB (.slice ga l.length gc) b ∨ w.heap.size ≤ b)))
    go_ret
    (try rw [Hst.out])
    exact ⟨_, rfl, HP.out.1, HP.out.2.1, HP.out.2.2⟩
   ·have e2 : ((cuts.length : Int) + 1 == (t.length : Int)) = false := by rw [beq_eq_false_iff_ne]; omega
    have hst := Hst0.out
    rw [if_neg hmo] at hst
    have Hst := Lib.hid hst; clear hst
    go_wp2_with (at_builtin; refine wp_app rfl _ _ 59 rfl B 107 (.agg #[.int .i64 0, .int .i64 0]) 2 16 Tryz.underlying59 inf_step rfl (by omega) _ _ _ rfl (hown5.alloc _) ⟨_, 0, none⟩ 1 1 [.int .i64 (-1), .int .i64 0] rfl rfl (World.news_of_block (heap_alloc_new _ _)) (by simp [Value.oneCell']) (by unfold maxLen; omega) (by omega) (by omega) ?_; intro v8 w8 hown8 hgrow8 hblk8; obtain ⟨gg, cap, rfl, hglt⟩ := own_some2 hown8; have h8P : w8.cell? ⟨PB, 0, none⟩ = some (.slice ga l.length gc) := (cell_keep hP5 ((hgrow8.block PB (by omega) (fun e => hneP e.symm)).trans (hbA.block PB hPl5))); have h8N : w8.cell? ⟨NB, 0, none⟩ = some (.bool false) := (cell_keep hN5 ((hgrow8.block NB (by omega) (fun e => hneN e.symm)).trans (hbA.block NB hNl5))); have h8S : w8.cell? ⟨SB, 5, none⟩ = some (.slice ta t.length tc) := (cell_keep hS5 ((hgrow8.block SB (by omega) (fun e => hgS e.symm)).trans (hbA.block SB (by omega)))); have h8T : w8.cell? ⟨TB, 0, none⟩ = some (.func (.func 93) #[] #[.pointer (some ⟨SB, 0, none⟩), .pointer (some ⟨PB, 0, none⟩), .pointer (some ⟨KB, 0, none⟩), .pointer (some ⟨NB, 0, none⟩), .pointer (some ⟨TB, 0, none⟩)]) := (cell_keep hT5 ((hgrow8.block TB (by omega) (fun e => hgT e.symm)).trans (hbA.block TB (by omega)))); have f8P : w8.frozen? ⟨PB, 0, none⟩ = false := (frozen_of_block ((hgrow8.block PB (by omega) (fun e => hneP e.symm)).trans ((hbA.block PB hPl5).trans HR5.out.hp)) 0); have f8N : w8.frozen? ⟨NB, 0, none⟩ = false := (frozen_of_block ((hgrow8.block NB (by omega) (fun e => hneN e.symm)).trans ((hbA.block NB hNl5).trans HR5.out.hn)) 0))
    obtain ⟨hP1, hP2, hP3⟩ := rf_push (x := (-1, 0)) HR5.out rfl hl12 hown8 hbA hgrow8 (by rcases hblk8 with h | h; exact .inl (h.symm.trans rfl); right; simp only [Value.ownBlock, Option.some.injEq] at h; omega) hglt
    obtain ⟨wz, hwz⟩ : ∃ wz, (w8.setCell ⟨PB, 0, none⟩ (.slice (some ⟨gg, 0, none⟩) (l.length + 1) cap)).setCell ⟨NB, 0, none⟩ (.bool false) = wz := ⟨_, rfl⟩
    have hQ1 := rf_still hP1
    have hQ2 := hP2.setCell (p := ⟨NB, 0, none⟩) (.inl (.inr (.inr (.inl rfl)))) (.bool false)
    rw [hwz] at hQ1 hQ2 ⊢
    have hCw : Chg (RfF PB KB NB (.slice ga l.length gc)) w wz := (Chg.of_below hb05).trans hQ2 (fun i hi => .inl hi)
    have hC1 : Chg (RfF PB KB NB (.slice ga l.length gc)) w1 wz := (Chg.of_below Hb5.out).trans hQ2 (fun i hi => .inl hi)
    have hfz : ∀ b, Far b → ¬ RfF PB KB NB (.slice (some ⟨gg, 0, none⟩) (l.length + 1) cap) b := fun b hb h => by
     rcases hP3 b h with h | h
     ·exact (HFar.out b hb).1 h
     ·have := (HFar.out b hb).2; omega
    have hkz : Keep Far w wz := hCw.keep fun b hb => (HFar.out b hb).1
    have hzw := hCw.size
    have IHr := H.out.2.2.2.2.2.1 (cuts ++ [key]) (.slice ma (cuts.length + 1) mc) (l ++ [(-1, 0)]) _ wz (by simp; omega)
     ⟨hQ1, H.out.2.2.1.mono (fun b hb _ => hfz b hb) hkz, HM.out.1.mono (fun b hb hlt hf => by
       rcases hP3 b hf with h | h
       ·have h1 := H.out.1.lt h
        rcases hb with (hb | hb) | hb
        ·exact (HFar.out b hb).1 h
        ·omega
        ·omega
       ·omega) (hC1.keep fun b hb hf => by
       have h1 := H.out.1.lt hf
       rcases hb with (hb | hb) | hb
       ·exact (HFar.out b hb).1 hf
       ·omega
       ·omega), fun e => by simp at e, fun o => by rw [hCw.cell hSl (HFar.out SB fs).1, hsb], ⟨hfz SB fs, by omega⟩, cell_keep htb (hkz TB ft hTl), hfz TB ft, H.out.2.2.2.2.2.2.1.more hl hkey, by simp; omega⟩
    have HI := Lib.hid (And.intro IHr (And.intro hCw hP3)); clear IHr hCw hC1 hfz hkz hP1 hP2 hP3 hQ1 hQ2 hwz
    refine HI.out.1.mono ?_
    rintro e' wq ⟨gv2, rfl, h1, h2, h3⟩
    have hF := And.intro h1 (And.intro (HI.out.2.1.trans h2 (fun i hi => by rcases HI.out.2.2 i hi with h | h; exact .inl h; right; omega)) (fun b hb => by
     rcases h3 b hb with h | h
     ·rcases HI.out.2.2 b h with h | h
      ·exact .inl h
      ·right; omega
     ·right; omega : ∀ b, RfF PB KB NB gv2 b → RfF PB KB NB (.slice ga l.length gc) b ∨ w.heap.size ≤ b))
    have HF := Lib.hid hF; clear hF h1 h2 h3
    go_wp2_with fail
    go_ret
    (try rw [Hst.out])
    exact ⟨gv2, rfl, HF.out.1, HF.out.2.1, HF.out.2.2⟩
end Go.Proofs.YtmjplkbmhdkggaaGreat
