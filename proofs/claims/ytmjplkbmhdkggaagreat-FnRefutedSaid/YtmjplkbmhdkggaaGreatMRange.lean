/- Copies and results whose memory lies between two sizes of the heap, and the laws' marks on them. No conditions. -/
import Derived.Test.YtmjplkbmhdkggaaGreatMReadR
import Derived.Test.YtmjplkbmhdkggaaGreatMLib
import Derived.Test.YtmjplkbmhdkggaaGreatMTable
import Derived.Test.YtmjplkbmhdkggaaGreatMRefFirst
import Derived.Test.YtmjplkbmhdkggaaGreatMReadV
namespace Go.Proofs.YtmjplkbmhdkggaaGreat
open Go.RowKit
set_option linter.unusedVariables false
set_option linter.unusedSimpArgs false
def Rg (lo hi : Nat) : Nat → Prop := fun b => lo ≤ b ∧ b < hi
def XR1 (lo hi : Nat) (w : World) (v : Value) (l : List Int) : Prop := ∃ b, X1 w v l b ∧ (l ≠ [] → lo ≤ b ∧ b < hi)
def XR2 (lo hi : Nat) (w : World) (v : Value) (ls : List (List Int)) : Prop :=
 ∃ ob bk, X2 w v ls ob bk ∧ (ls ≠ [] → lo ≤ ob ∧ ob < hi) ∧ ∀ k, k < ls.length → getl ls k ≠ [] → lo ≤ bk k ∧ bk k < hi
section
variable {lo hi lo' hi' s B : Nat} {w w' : World} {v : Value} {l : List Int} {ls : List (List Int)}
theorem XR2.of_F2 (h : F2 B w v ls) : XR2 B w.heap.size w v ls := by
 obtain ⟨ob, bk, h1, h2, h3⟩ := h
 exact ⟨ob, bk, h1, fun hn => ⟨h2 hn, (h1.lt hn).1⟩, fun k hk hn => ⟨h3 k hk hn, (h1.lt (rows_ne hk)).2 k hk hn⟩⟩
theorem XR1.below (h : XR1 lo hi w v l) (hb : Below w.heap.size w w') : XR1 lo hi w' v l := by
 obtain ⟨b, h1, h2⟩ := h
 exact ⟨b, h1.keep (fun hn => hb.block _ (h1.lt hn)), h2⟩
theorem XR2.below (h : XR2 lo hi w v ls) (hb : Below w.heap.size w w') : XR2 lo hi w' v ls := by
 obtain ⟨ob, bk, h1, h2, h3⟩ := h
 exact ⟨ob, bk, h1.keep (fun hn => hb.block _ (h1.lt hn).1) (fun k hk hn => hb.block _ ((h1.lt (rows_ne hk)).2 k hk hn)), h2, h3⟩
theorem XR1.chg (h : XR1 lo hi w v l) (hc : Chg (Rg lo' hi') w w') (hd : hi ≤ lo' ∨ hi' ≤ lo) : XR1 lo hi w' v l := by
 obtain ⟨b, h1, h2⟩ := h
 exact ⟨b, h1.keep (fun hn => hc.block _ (h1.lt hn) (fun hf => by have := h2 hn; obtain ⟨g1, g2⟩ := hf; omega)), h2⟩
theorem XR2.chg (h : XR2 lo hi w v ls) (hc : Chg (Rg lo' hi') w w') (hd : hi ≤ lo' ∨ hi' ≤ lo) : XR2 lo hi w' v ls := by
 obtain ⟨ob, bk, h1, h2, h3⟩ := h
 exact ⟨ob, bk, h1.keep (fun hn => hc.block _ (h1.lt hn).1 (fun hf => by have := h2 hn; obtain ⟨g1, g2⟩ := hf; omega)) (fun k hk hn => hc.block _ ((h1.lt (rows_ne hk)).2 k hk hn) (fun hf => by have := h3 k hk hn; obtain ⟨g1, g2⟩ := hf; omega)), h2, h3⟩
theorem XR1.v1 (h : XR1 lo hi w v l) : V1 (fun _ => True) w v l := by
 obtain ⟨b, h1, _⟩ := h; exact h1.v1 (fun _ => trivial)
theorem XR2.v2 (h : XR2 lo hi w v ls) : V2 (fun _ => True) w v ls := by
 obtain ⟨ob, bk, h1, _⟩ := h; exact h1.v2 (fun _ => trivial) (fun _ _ _ => trivial)
theorem XR1.form (h : XR1 lo hi w v l) : ∃ a c, v = .slice a l.length c := by
 obtain ⟨b, ⟨a, c, rfl, _⟩, _⟩ := h; exact ⟨a, c, rfl⟩
theorem XR2.form (h : XR2 lo hi w v ls) : ∃ a c, v = .slice a ls.length c := by
 obtain ⟨ob, bk, ⟨a, c, rfl, _⟩, _⟩ := h; exact ⟨a, c, rfl⟩
theorem F1.any (h : F1 B w v l) : V1 (fun _ => True) w v l := h.v1.any
theorem F2.any (h : F2 B w v ls) : V2 (fun _ => True) w v ls := h.v2.any
end
def XRS (lo hi : Nat) (w : World) (v : Value) (l : List (Int × Int)) : Prop := ∃ b, XS w v l b ∧ (l ≠ [] → lo ≤ b ∧ b < hi)
/-- Fresh steps. -/
def FS (B : Nat) (w : World) (v : Value) (l : List (Int × Int)) : Prop := ∃ b, XS w v l b ∧ (l ≠ [] → B ≤ b)
section
variable {lo hi lo' hi' s B : Nat} {w w' : World} {v : Value} {l : List (Int × Int)}
theorem XRS.below (h : XRS lo hi w v l) (hb : Below w.heap.size w w') : XRS lo hi w' v l := by
 obtain ⟨b, h1, h2⟩ := h
 exact ⟨b, h1.keep (fun hn => hb.block _ (h1.lt hn)), h2⟩
theorem XRS.chg (h : XRS lo hi w v l) (hc : Chg (Rg lo' hi') w w') (hd : hi ≤ lo' ∨ hi' ≤ lo) : XRS lo hi w' v l := by
 obtain ⟨b, h1, h2⟩ := h
 exact ⟨b, h1.keep (fun hn => hc.block _ (h1.lt hn) (fun hf => by have := h2 hn; obtain ⟨g1, g2⟩ := hf; omega)), h2⟩
theorem XRS.vs (h : XRS lo hi w v l) : VS (fun _ => True) w v l := by
 obtain ⟨b, h1, _⟩ := h; exact h1.vs (fun _ => trivial)
theorem XRS.form (h : XRS lo hi w v l) : ∃ a c, v = .slice a l.length c := by
 obtain ⟨b, ⟨a, c, rfl, _⟩, _⟩ := h; exact ⟨a, c, rfl⟩
theorem VS.old {S : Nat → Prop} (h : VS S w v l) : VS (fun b => b < w.heap.size) w v l := h.mono (fun _ _ h => h) (fun _ _ _ => rfl)
theorem FS.mono {B' : Nat} (h : FS B w v l) (hb : B' ≤ B) : FS B' w v l := by
 obtain ⟨b, h1, h2⟩ := h
 exact ⟨b, h1, fun hn => Nat.le_trans hb (h2 hn)⟩
theorem FS.vs (h : FS B w v l) : VS (fun _ => True) w v l := by
 obtain ⟨b, h1, _⟩ := h; exact h1.vs (fun _ => trivial)
theorem FS.nil : FS B w (.slice none 0 0) [] := ⟨0, ⟨none, 0, rfl, Nat.le_refl _, Nat.zero_le _, fun hn => absurd rfl hn⟩, fun hn => absurd rfl hn⟩
theorem FS.below (h : FS B w v l) (hb : Below w.heap.size w w') : FS B w' v l := by
 obtain ⟨b, h1, h2⟩ := h
 exact ⟨b, h1.keep (fun hn => hb.block _ (h1.lt hn)), h2⟩
end
theorem refAns_len {m : Mk} {t : List (List Int)} {steps : List (Int × Int)} (h : refAns m t steps = true) : isSys m t = true ∧ steps.length ≤ 1200 ∧ (rdRes m t steps).2 = true ∧ (rdRes m t steps).1.1 = steps.length := by
 unfold refAns at h
 split at h
 ·cases h
 ·rename_i h1
  split at h
  ·cases h
  ·rw [Bool.and_eq_true, decide_eq_true_iff] at h
   exact ⟨by simpa using h1, by omega, h.1, h.2⟩
theorem flatS_get {l : List (Int × Int)} : ∀ {k : Nat}, k < l.length → (flatS l)[k * 2]? = some (.int .i64 (gets l k).1) ∧ (flatS l)[k * 2 + 1]? = some (.int .i64 (gets l k).2) := by
 induction l with
 | nil => intro k h; simp at h
 | cons x l ih =>
   intro k h
   cases k with
   | zero => exact ⟨rfl, rfl⟩
   | succ k =>
     have h1 := ih (k := k) (by simpa using h)
     have e : flatS (x :: l) = .int .i64 x.1 :: .int .i64 x.2 :: flatS l := rfl
     rw [e, show (k + 1) * 2 = k * 2 + 1 + 1 from by omega]
     exact h1
theorem own_FS {w : World} {B : Nat} {v : Value} {l : List (Int × Int)} (h : w.ownsRow B 107 2 v l.length (flatS l)) : FS B w v l := by
 rcases h.2 with ⟨rfl, h0⟩ | ⟨g, cap, cur, rfl, h1, h2, h3, h4, h5, h6⟩
 ·have : l = [] := List.length_eq_zero_iff.1 h0
  subst this; exact FS.nil
 ·refine ⟨g, ⟨_, _, rfl, h3, h4, fun _ => ⟨0, cur, _, rfl, h2, fun k hk => ?_⟩⟩, fun _ => h1⟩
  have h7 := flatS_get hk
  rw [← h6, List.getElem?_take, List.getElem?_take, if_pos (by omega), if_pos (by omega), Array.getElem?_toList, Array.getElem?_toList] at h7
  rw [Nat.zero_add]; exact h7
def RtInv (PB KB NB B : Nat) (st : FSt) (F : Nat → Prop) (w : World) : Prop := ∃ gv, Rf PB KB NB B st gv w ∧ ∀ b, F b ↔ RfF PB KB NB gv b
theorem enters_rt : Enters 95 := fun args w => by kernel_rfl
theorem rt_ok (m : Mk) (t : List (List Int)) (n : Nat) (hn : (n : Int) = m.c) (tv cv gv0 : Value) (SB PB KB NB TB CB B d : Nat) (cuts : List (List Int)) (l0 : List (Int × Int)) (w0 : World)
  (hp : PartOk m t cuts) (hl : cuts.length < t.length) (hcd : cuts.length + (d + 1) = t.length) (IH : TryAny m t tv SB PB KB NB TB B d n) (hl0 : l0.length ≤ 1200)
  (hsb : ∀ o, w0.cell? ⟨SB, o, none⟩ = (#[.int .i64 m.c, .int .i64 m.d, .int .i64 m.s, .int .i64 m.e, .int .i64 m.l, tv] : Array Value)[o]?) (fs : ¬ RfF PB KB NB gv0 SB ∧ SB < w0.heap.size) (htb : w0.cell? ⟨TB, 0, none⟩ = some (tryV SB PB KB NB TB)) (ft : ¬ RfF PB KB NB gv0 TB) (hcb : w0.cell? ⟨CB, 0, none⟩ = some cv) (fc : ¬ RfF PB KB NB gv0 CB)
  (ht : V2 (fun b => ¬ RfF PB KB NB gv0 b ∧ b < w0.heap.size) w0 tv t) (hc : V2 (fun b => ¬ RfF PB KB NB gv0 b ∧ b < w0.heap.size) w0 cv cuts) (hcp : cuts = [] → PV cv) :
  VisOk m.c.toNat w0 (RfF PB KB NB gv0) 95 #[.pointer (some ⟨PB, 0, none⟩), .pointer (some ⟨KB, 0, none⟩), .pointer (some ⟨CB, 0, none⟩), .pointer (some ⟨SB, 0, none⟩), .pointer (some ⟨NB, 0, none⟩), .pointer (some ⟨TB, 0, none⟩)]
   (rfStep n t (rfF n t (keysOf m) d) cuts) (l0, 0) (genF m (fun _ _ => true) [] false m.c.toNat []) (RtInv PB KB NB B) := by
 refine ⟨enters_rt, ?_, ?_, ?_⟩
 ·rintro s F w w' ⟨gv, h1, h2⟩ hz hk
  exact ⟨gv, h1.keep hz (fun b hb => hk b ((h2 b).2 hb)), h2⟩
 ·rintro s F w ⟨gv, h1, h2⟩ b hb
  exact h1.lt ((h2 b).1 hb)
 ·rintro ⟨l, c⟩ F S w v key done rest hL hr ⟨gv, hR, hFi⟩ hchg hsub hV hS hlen
  obtain ⟨hc0, hll⟩ := rf_zero (fun c l h => rfF_ok h) hl0 hr
  obtain rfl : c = 0 := hc0
  have hkey : isKeyB m key = true := by
   have hc0 : 0 ≤ m.c := by omega
   refine (mem_keysOf hc0).1 ?_
   have hk : key ∈ genF m (fun _ _ => true) [] false m.c.toNat [] := by rw [hL]; simp
   rw [genF_free] at hk
   exact hk
  have hfar : ∀ b, (¬ RfF PB KB NB gv0 b ∧ b < w0.heap.size) → ¬ RfF PB KB NB gv b ∧ b < w.heap.size := fun b hb => by
   refine ⟨fun h => ?_, by have := hchg.size; omega⟩
   rcases hsub b ((hFi b).2 h) with h1 | h1
   ·exact hb.1 h1
   ·omega
  have hkp : Keep (fun b => ¬ RfF PB KB NB gv0 b ∧ b < w0.heap.size) w0 w := hchg.keep fun b hb => hb.1
  refine (refv_any (Far := fun b => ¬ RfF PB KB NB gv0 b ∧ b < w0.heap.size) m t n hn tv cv v gv SB PB KB NB TB CB B d cuts key l w hp hl hcd IH hR hfar (fun o => by rw [hchg.cell fs.2 fs.1, hsb]) fs (cell_keep htb (hchg.block _ (lt_of_cell htb) ft)) ⟨ft, lt_of_cell htb⟩ (cell_keep hcb (hchg.block _ (lt_of_cell hcb) fc)) ⟨fc, lt_of_cell hcb⟩
   (ht.mono (fun _ h _ => h) hkp) (hc.mono (fun _ h _ => h) hkp) hcp hV hkey).mono ?_
  rintro e w' ⟨gv', rfl, h1, h3, h4⟩
  exact ⟨RfF PB KB NB gv', rfl, ⟨gv', h1, fun b => Iff.rfl⟩, h3.mono (fun b hb => (hFi b).2 hb), fun b hb => by
   rcases h4 b hb with h | h
   ·exact .inl ((hFi b).2 h)
   ·exact .inr h⟩
set_option maxRecDepth 100000 in
set_option maxHeartbeats 1000000 in
theorem try_any (m : Mk) (t : List (List Int)) (n : Nat) (hn : (n : Int) = m.c) (tv : Value) (SB PB KB NB TB B : Nat) : ∀ d, TryAny m t tv SB PB KB NB TB B d n := by
 intro d
 induction d with
 | zero => intro cuts cv l gv W hcd ask; have := ask.lt; omega
 | succ d ih =>
   intro cuts cv l gv W hcd ask
   obtain ⟨hR, ht, hc, hcp, hsb, hsf, htb, htf, hok, hlt⟩ := ask
   have hmk := hok.fits.ok
   obtain ⟨ta, tc, rfl, htm⟩ := ht.form
   obtain ⟨ca, cc, rfl, hcm⟩ := hc.form
   obtain ⟨WA, hWA⟩ : ∃ WA, WA = W.alloc (.cells #[.slice ca cuts.length cc] 24) := ⟨_, rfl⟩
   have hbA : Below W.heap.size W WA := by rw [hWA]; exact (Below.refl _ _).alloc (Nat.le_refl _) _
   have hzA : WA.heap.size = W.heap.size + 1 := by rw [hWA]; simp
   have hA0 : WA.heap[W.heap.size]? = some (.cells #[.slice ca cuts.length cc] 24 (0, 0)) := by rw [hWA]; exact heap_alloc_self _ _
   have hRA := hR.below hbA
   have hTl := lt_of_cell htb
   have hkA : Keep (fun b => ¬ RfF PB KB NB gv b) W WA := fun b _ hb => hbA.block b hb
   have htA := ht.mono (S' := fun b => ¬ RfF PB KB NB gv b ∧ b < WA.heap.size) (fun b h1 h2 => ⟨h1, by omega⟩) hkA
   have hcA := hc.mono (S' := fun b => ¬ RfF PB KB NB gv b ∧ b < WA.heap.size) (fun b h1 h2 => ⟨h1, by omega⟩) hkA
   have hV := rt_ok m t n hn (.slice ta t.length tc) (.slice ca cuts.length cc) gv SB PB KB NB TB W.heap.size B d cuts l WA hok hlt hcd ih hR.ok.1
    (fun o => by rw [(bcell hbA).1 _ _ hsf.2, hsb]) ⟨hsf.1, by omega⟩ (cell_keep htb (hbA.block _ hTl)) htf (by rw [cell_of_block hA0]; rfl) (fun h => by have := hR.lt h; omega) htA hcA hcp
   have hI : RtInv PB KB NB B (l, 0) (RfF PB KB NB gv) WA := ⟨gv, hRA, fun b => Iff.rfl⟩
   have hek := eachKey_any (A := fun _ _ => true) (av := .nilFunc) hmk WA hV (.inl ⟨rfl, fun _ _ => rfl⟩) hI
   have hkx : ∀ o1 k, (W.alloc o1).cell? ⟨SB, k, none⟩ = (#[.int .i64 m.c, .int .i64 m.d, .int .i64 m.s, .int .i64 m.e, .int .i64 m.l, .slice ta t.length tc] : Array Value)[k]? := fun o1 k => by
    rw [(bcell (show Below W.heap.size W (W.alloc o1) from (Below.refl _ _).alloc (Nat.le_refl _) _)).1 _ _ hsf.2, hsb]
   rw [genF_free] at hek
   have hgen : gen m m.c.toNat [] = keysOf m := rfl
   rw [hgen] at hek
   have hres : rfF n t (keysOf m) (d + 1) cuts l = (runL (rfStep n t (rfF n t (keysOf m) d) cuts) (l, 0) (keysOf m)).1 := rfl
   have hrok := rfF_ok (n := n) (t := t) (keys := keysOf m) (d := d + 1) (cuts := cuts) (l := l) hR.ok.1
   obtain ⟨r, hr⟩ : ∃ r, rfF n t (keysOf m) (d + 1) cuts l = r := ⟨_, rfl⟩
   rw [← hres, hr] at hek
   rw [hr] at hrok ⊢
   obtain ⟨rl, rc⟩ := r
   have Hek := Lib.hid (And.intro hek (And.intro hR (And.intro hbA (And.intro hzA hWA)))); clear hek hV hI hR hRA hbA hA0 hr hres ih ht hc htA hcA hkA hok hcp hWA hgen
   clear hzA
   obtain ⟨b3, hb3⟩ : ∃ b, decide (rc = 3) = b := ⟨_, rfl⟩
   obtain ⟨b5, hb5⟩ : ∃ b, decide (rc = 5) = b := ⟨_, rfl⟩
   have hb0 : decide (rc = 0) = (!b3 && !b5) := by
    rw [← hb3, ← hb5]
    rcases hrok.2 with h0 | h0 | h0 <;> (have h0' : rc = _ := h0; rw [h0']; rfl)
   show Calls _ _ _ _ (RfPost PB KB NB B gv W (rl, rc) (decide (rc = 0)))
   rw [hb0]
   have Hb := Lib.hid (And.intro hb3 (And.intro hb5 hrok)); clear hb3 hb5 hb0 hrok
   go_enter Tryz.func93, Tryz.ntmps93
   go_wp2_with fail
   rw [← Hek.out.2.2.2.2]
   refine Hek.out.1.mono ?_
   rintro e' w' ⟨F', ⟨gv', h1, h2⟩, hch, hsub, rfl⟩
   have hzA := Hek.out.2.2.2.1
   have hzw := hch.size
   have cK : w'.cell? ⟨KB, 0, none⟩ = some (.bool b3) := by rw [cell_of_block h1.hk]; show some (Value.bool (decide (rc = 3))) = _; rw [Hb.out.1]
   have cN : w'.cell? ⟨NB, 0, none⟩ = some (.bool b5) := by rw [cell_of_block h1.hn]; show some (Value.bool (decide (rc = 5))) = _; rw [Hb.out.2.1]
   have hchW : Chg (RfF PB KB NB gv) W w' := (Chg.of_below Hek.out.2.2.1).trans hch (fun i hi => .inl hi)
   have hsW : ∀ b, RfF PB KB NB gv' b → RfF PB KB NB gv b ∨ W.heap.size ≤ b := fun b hb => by
    rcases hsub b ((h2 b).2 hb) with h | h
    ·exact .inl h
    ·right; omega
   have HF := Lib.hid (And.intro h1 (And.intro hchW hsW)); clear h1 h2 hch hsub hchW hsW
   cases b3 <;> cases b5
   all_goals
    go_wp2_with fail
    go_ret
    exact ⟨gv', rfl, HF.out.1, HF.out.2.1, HF.out.2.2⟩
def refW (w2 : World) (SB : Nat) : World :=
 ((((w2.alloc (.cells #[] 107)).alloc (.cells #[.slice (some ⟨w2.heap.size, 0, none⟩) 0 0] 59)).alloc (.cells #[.bool false] 4)).alloc (.cells #[.bool false] 4)).alloc
   (.cells #[tryV SB (w2.heap.size + 1) (w2.heap.size + 1 + 1) (w2.heap.size + 1 + 1 + 1) (w2.heap.size + 1 + 1 + 1 + 1)] 101)
theorem ref_ask {S : Nat → Prop} {m : Mk} {t : List (List Int)} (hy : isSys m t = true) {tv : Value} {w2 : World} {SB : Nat} (hV : V2 S w2 tv t) (hsb : ∀ o, w2.cell? ⟨SB, o, none⟩ = (#[.int .i64 m.c, .int .i64 m.d, .int .i64 m.s, .int .i64 m.e, .int .i64 m.l, tv] : Array Value)[o]?) (hSl : SB < w2.heap.size) :
  RfAsk m t tv SB (w2.heap.size + 1) (w2.heap.size + 1 + 1) (w2.heap.size + 1 + 1 + 1) (w2.heap.size + 1 + 1 + 1 + 1) w2.heap.size [] (.slice none 0 0) [] (.slice (some ⟨w2.heap.size, 0, none⟩) 0 0) (refW w2 SB) ∧ Below w2.heap.size w2 (refW w2 SB) := by
 have hok := PartOk.nil hy
 have hrows := hok.fits.rows
 obtain ⟨WA, hWA⟩ : ∃ WA, WA = refW w2 SB := ⟨_, rfl⟩
 have hb : Below w2.heap.size w2 WA := by
  rw [hWA]; unfold refW
  repeat (first | exact Below.refl _ _ | refine Below.alloc ?_ (by simp; try omega) _)
 have hz : WA.heap.size = w2.heap.size + 5 := by rw [hWA]; simp [refW]
 have h0 : WA.heap[w2.heap.size]? = some (.cells #[] 107 (0, 0)) := by rw [hWA]; unfold refW; simp only [heap_alloc_at, World.size_alloc]; (repeat rw [if_neg (by omega)]); simp
 have h1 : WA.heap[w2.heap.size + 1]? = some (.cells #[.slice (some ⟨w2.heap.size, 0, none⟩) 0 0] 59 (0, 0)) := by rw [hWA]; unfold refW; simp only [heap_alloc_at, World.size_alloc]; (repeat rw [if_neg (by omega)]); simp
 have h2 : WA.heap[w2.heap.size + 1 + 1]? = some (.cells #[.bool false] 4 (0, 0)) := by rw [hWA]; unfold refW; simp only [heap_alloc_at, World.size_alloc]; (repeat rw [if_neg (by omega)]); simp
 have h3 : WA.heap[w2.heap.size + 1 + 1 + 1]? = some (.cells #[.bool false] 4 (0, 0)) := by rw [hWA]; unfold refW; simp only [heap_alloc_at, World.size_alloc]; (repeat rw [if_neg (by omega)]); simp
 have h4 : WA.heap[w2.heap.size + 1 + 1 + 1 + 1]? = some (.cells #[tryV SB (w2.heap.size + 1) (w2.heap.size + 1 + 1) (w2.heap.size + 1 + 1 + 1) (w2.heap.size + 1 + 1 + 1 + 1)] 101 (0, 0)) := by rw [hWA]; unfold refW; simp only [heap_alloc_at, World.size_alloc]; (repeat rw [if_neg (by omega)]); simp
 rw [← hWA]
 have hno : ∀ b, b < w2.heap.size → ¬ RfF (w2.heap.size + 1) (w2.heap.size + 1 + 1) (w2.heap.size + 1 + 1 + 1) (.slice (some ⟨w2.heap.size, 0, none⟩) 0 0) b := fun b hb h => by
  rcases h with h | h | h | h
  ·omega
  ·omega
  ·omega
  ·simp only [Value.ownBlock, Option.some.injEq] at h; omega
 refine ⟨⟨⟨h1, h2, h3, ⟨rfl, .inr ⟨w2.heap.size, 0, #[], rfl, Nat.le_refl _, h0, Nat.le_refl _, Nat.zero_le _, rfl, rfl⟩⟩, ?_, ⟨Nat.zero_le _, .inl rfl⟩, by omega, by omega⟩, hV.any.mono (fun b _ hb' => hno b hb') (fun b _ hb' => hb.block b hb'), ⟨none, 0, rfl, Nat.le_refl _, Nat.zero_le _, fun k hk => by simp at hk⟩, fun _ => .inl rfl, fun o => by rw [(bcell hb).1 _ _ hSl, hsb], ⟨hno SB hSl, by omega⟩, by rw [cell_of_block h4]; rfl, ?_, hok, by simp; omega⟩, hb⟩
 ·refine ⟨fun e => ?_, fun e => ?_, fun e => ?_⟩ <;> simp only [Value.ownBlock, Option.some.injEq] at e <;> omega
 ·intro h
  rcases h with h | h | h | h
  ·omega
  ·omega
  ·omega
  ·simp only [Value.ownBlock, Option.some.injEq] at h; omega
theorem refAnsC {m : Mk} {t : List (List Int)} (hy : isSys m t = true) : refuteAns m t = if (rfF m.c.toNat t (keysOf m) t.length [] []).2 = 0 then ((rfF m.c.toNat t (keysOf m) t.length [] []).1, 0) else ([], (rfF m.c.toNat t (keysOf m) t.length [] []).2) := by unfold refuteAns; rw [if_neg (by rw [hy]; decide)]
set_option maxRecDepth 100000 in
set_option maxHeartbeats 1000000 in
theorem Refute_any {S : Nat → Prop} (m : Mk) (u : Value) (t : List (List Int)) (W : World) (h : V2 S W u t) :
  Calls Tryz.prog 35 #[.agg #[.int .i64 m.c, .int .i64 m.d, .int .i64 m.s, .int .i64 m.e, .int .i64 m.l, u]] W fun e' w' => ∃ v', e' = .returned (.tuple #[v', .int .i64 (refuteAns m t).2]) ∧ FS W.heap.size w' v' (refuteAns m t).1 ∧ Below W.heap.size W w' := by
 obtain ⟨a, c, rfl, hmx⟩ := h.form
 obtain ⟨W1, hW1, hB01, hz01, HZ01, hc01, hh01⟩ := box_facts W #[.int .i64 m.c, .int .i64 m.d, .int .i64 m.s, .int .i64 m.e, .int .i64 m.l, .slice a t.length c] 33
 have hV1 : V2 (fun b => b < W1.heap.size) W1 (.slice a t.length c) t := (h.below hB01).mono (fun _ _ h => h) (fun _ _ _ => rfl)
 cases hy : isSys m t
 ·have hfin : refuteAns m t = ([], 1) := by unfold refuteAns; rw [if_pos hy]
  rw [hfin]
  have H := Lib.hid (And.intro hy hfin); clear hy hfin
  go_enter Tryz.func35, Tryz.ntmps35
  go_wp2_with fail
  rw [← hW1]
  refine (isSystem_b m _ t _ _ H.out.1 hV1).mono ?_
  rintro e' w2 ⟨rfl, hb2⟩
  clear hc01 hh01
  go_wp2_with fail
  go_ret2
  exact ⟨_, rfl, FS.nil, hB01.trans (hb2.mono (by omega))⟩
 ·have hok := PartOk.nil hy
  have hmk := Mk.ok_iff.1 hok.fits.ok
  have hrows := hok.fits.rows
  have hra := refAnsC hy
  have hfok := rfF_ok (n := m.c.toNat) (t := t) (keys := keysOf m) (d := t.length) (cuts := []) (l := []) (by simp)
  have hcall := fun (w : World) (gv : Value) (SB PB KB NB TB B : Nat) (ask : RfAsk m t (.slice a t.length c) SB PB KB NB TB B [] (.slice none 0 0) [] gv w) => try_any m t m.c.toNat (by omega) (.slice a t.length c) SB PB KB NB TB B t.length [] (.slice none 0 0) [] gv w (by simp) ask
  obtain ⟨r, hr⟩ : ∃ r, rfF m.c.toNat t (keysOf m) t.length [] [] = r := ⟨_, rfl⟩
  rw [hr] at hra hfok
  simp only [hr] at hcall
  obtain ⟨rl, rc⟩ := r
  obtain ⟨ans, hans⟩ : ∃ r, refuteAns m t = r := ⟨_, rfl⟩
  rw [hans] at hra ⊢
  have H := Lib.hid (And.intro hy (And.intro hcall (And.intro hok (And.intro hr hans)))); clear hy hcall hr hans
  have hwl : 1 ≤ t.length := hrows.1
  clear hrows hmk hok
  rcases hfok.2 with h0 | h0 | h0
  all_goals
   have h0' : rc = _ := h0
   clear h0
   subst h0'
   first | rw [if_pos rfl] at hra | rw [if_neg (by show ¬ (3 : Int) = 0; decide)] at hra | rw [if_neg (by show ¬ (5 : Int) = 0; decide)] at hra
   subst hra
   go_enter Tryz.func35, Tryz.ntmps35
   go_wp2_with fail
   rw [← hW1]
   refine (isSystem_b m _ t _ _ H.out.1 hV1).mono ?_
   rintro e' w2 ⟨rfl, hb2⟩
   have hz2 := hb2.size
   have hx2 : ∀ o, w2.cell? ⟨W.heap.size, o, none⟩ = (#[.int .i64 m.c, .int .i64 m.d, .int .i64 m.s, .int .i64 m.e, .int .i64 m.l, .slice a t.length c] : Array Value)[o]? := fun o => by rw [(bcell hb2).1 _ _ hz01, hc01]
   have HW1 := Lib.hid hW1; clear hW1 hh01
   have hask := ref_ask H.out.1 (hV1.below hb2) hx2 (show W.heap.size < w2.heap.size by omega)
   have Hask := Lib.hid hask; clear hask
   go_wp2_with fail
   refine (H.out.2.1 (refW w2 W.heap.size) _ _ _ _ _ _ _ Hask.out.1).mono ?_
   rintro e' w3 ⟨gv, rfl, hR, hch, hsub⟩
   have hb3 : Below W.heap.size W w3 := hB01.trans (((hb2.trans (Hask.out.2.mono hz2)).mono (by omega)).trans (hch.to_below (B := W.heap.size) (fun i hi => by
    have h1 := Hask.out.1.rf.lt hi
    rcases hi with hi | hi | hi | hi
    ·omega
    ·omega
    ·omega
    ·simp only [Value.ownBlock, Option.some.injEq] at hi; omega) (by have := Hask.out.2.size; omega)))
   have cP : w3.cell? ⟨w2.heap.size + 1, 0, none⟩ = some gv := by rw [cell_of_block hR.hp]; rfl
   have cK := cell_of_block hR.hk 0
   have cN := cell_of_block hR.hn 0
   simp only [List.getElem?_toArray, List.getElem?_cons_zero] at cK cN
   have hFS := (own_FS hR.own).mono (B' := W.heap.size) (by omega)
   obtain ⟨ga, gc, rfl, _, _⟩ := own_formz hR.own
   have HF := Lib.hid (And.intro hb3 hFS); clear hb3 hFS hR hch hsub hx2
   go_wp2_with fail
   go_ret2
   first | exact ⟨_, rfl, FS.nil, HF.out.1⟩ | exact ⟨_, rfl, HF.out.2, HF.out.1⟩
end Go.Proofs.YtmjplkbmhdkggaaGreat
