/- The next design: the program. No conditions. -/
import Derived.Test.YtmaefilliggjiaaGreatGoW
import Derived.Test.YtmaefilliggjiaaGreatMFindO
namespace Go.Proofs.YtmaefilliggjiaaGreat
open Go.RowKit
set_option linter.unusedVariables false
set_option linter.unusedSimpArgs false
def NdInv (B DB : Nat) (s : List (List (List Int))) (F : Nat → Prop) (w : World) : Prop :=
 ∃ rv L U, w.heap[DB]? = some (.cells #[rv] 26 (0, 0)) ∧ (∀ b, F b ↔ b = DB ∨ (L ≤ b ∧ b < U)) ∧ (DB < L ∨ U ≤ DB) ∧ (B ≤ L ∧ L ≤ U) ∧ U ≤ w.heap.size ∧ ((s = [] ∧ rv = .slice none 0 0) ∨ ∃ d, s = [d] ∧ d ≠ [] ∧ In2 L U w rv d)
theorem enters_nd : Enters 99 := fun args w => by kernel_rfl
set_option maxRecDepth 100000 in
theorem nd1_any {S : Nat → Prop} (v : Value) (design : List (List Int)) (rv : Value) (B DB : Nat) (w : World) (hv : V2 S w v design) (hD : w.heap[DB]? = some (.cells #[rv] 26 (0, 0))) (hB : B ≤ w.heap.size) (hn : design ≠ [])
  (hd : design.length ≤ 1000) (hr : ∀ k, k < design.length → (getl design k).length ≤ 1000) :
  Calls Tryz.prog 99 #[v, .pointer (some ⟨DB, 0, none⟩)] w fun e w' => e = .returned (.bool false) ∧ ∃ F', NdInv B DB [design] F' w' ∧ Chg (fun b => b = DB) w w' ∧ ∀ b, F' b → b = DB ∨ w.heap.size ≤ b := by
 obtain ⟨va, vc, rfl, hvm⟩ := hv.form
 have hDl := lt_of_heap hD
 have H := Lib.hid (And.intro hD (And.intro hv hr)); clear hD hv hr
 go_enter Tryz.func99, Tryz.ntmps99
 go_wp2_with fail
 refine (copyLists_any _ design _ H.out.2.1 hd H.out.2.2).mono ?_
 rintro e' w2 ⟨v2, rfl, hF, hb2⟩
 obtain ⟨a2, c2, rfl, _⟩ := hF.v2.form
 have hh2 := heap_below H.out.1 hb2 hDl
 have hz2 := hb2.size
 have c2c := cell_of_block hh2 0
 simp at c2c
 have f2c := frozen_of_block hh2 0
 have hs2 := heap_setCell_self (off := 0) hh2 (.slice a2 design.length c2)
 have hI : In2 w.heap.size w2.heap.size (w2.setCell ⟨DB, 0, none⟩ (.slice a2 design.length c2)) (.slice a2 design.length c2) design := (In2.of_F2 hF).keep fun b h1 h2 => heap_setCell_other _ (by omega)
 have hC : Chg (fun b => b = DB) w (w2.setCell ⟨DB, 0, none⟩ (.slice a2 design.length c2)) := (Chg.of_below (F := fun b => b = DB) hb2).setCell (p := ⟨DB, 0, none⟩) (.inl rfl) _
 have HF := Lib.hid (And.intro hs2 (And.intro hI hC)); clear hs2 hI hC hF hh2
 go_wp2_with fail
 go_ret
 exact ⟨rfl, _, ⟨_, w.heap.size, w2.heap.size, HF.out.1, fun b => Iff.rfl, .inl hDl, ⟨hB, hb2.size⟩, by simp, .inr ⟨design, rfl, hn, HF.out.2.1⟩⟩, HF.out.2.2, fun b hb => by
  rcases hb with hb | hb
  ·exact .inl hb
  ·exact .inr hb.1⟩
theorem nd_vis (B DB : Nat) {m : Mk} {t : List (List Int)} : VisG (fun s : List (List (List Int)) => (s.length : Int) < 1) (fun ds => DesOk m t ds ∧ ds ≠ []) 99 #[.pointer (some ⟨DB, 0, none⟩)] (visK 1) (NdInv B DB) := by
 refine ⟨enters_nd, ?_, ?_, ?_, ?_⟩
 ·rintro s F w w' ⟨rv, L, U, h1, h2, h3, h4, h5, h6⟩ hz hk
  refine ⟨rv, L, U, by rw [hk DB ((h2 DB).2 (.inl rfl))]; exact h1, h2, h3, h4, Nat.le_trans h5 hz, ?_⟩
  rcases h6 with h6 | ⟨d, h6, h7, h8⟩
  ·exact .inl h6
  ·exact .inr ⟨d, h6, h7, h8.keep fun b hl hu => hk b ((h2 b).2 (.inr ⟨hl, hu⟩))⟩
 ·rintro s F w ⟨rv, L, U, h1, h2, h3, h4, h5, h6⟩ b hb
  rcases (h2 b).1 hb with rfl | hb
  ·exact lt_of_heap h1
  ·omega
 ·intro s design h1 h2
  have h3 : decide ((s.length : Int) + 1 < 1) = true := h2
  have := of_decide_eq_true h3
  omega
 ·rintro s F S w v design ⟨rv, L, U, h1, h2, h3, h4, h5, h6⟩ hV hS hP hact
  have hs : s = [] := List.length_eq_zero_iff.1 (by have h7 : (s.length : Int) < 1 := hact; omega)
  subst hs
  have hfew := hP.1.few
  refine (nd1_any v design rv B DB w hV h1 (by omega) hP.2 (by omega) (fun k hk => by have := (hfew.2 k hk).1; omega)).mono ?_
  rintro e w' ⟨rfl, F', g1, g2, g3⟩
  refine ⟨F', rfl, g1, g2.mono (fun b hb => (h2 b).2 (.inl hb)), fun b hb => ?_⟩
  rcases g3 b hb with h | h
  ·exact .inl ((h2 b).2 (.inl h))
  ·exact .inr h
set_option maxRecDepth 100000 in
set_option maxHeartbeats 2000000 in
theorem NextDesign_any {S S' : Nat → Prop} (m : Mk) (u v : Value) (t cuts : List (List Int)) (limit : Int) (W : World) (h : V2 S W u t) (hc : V2 S' W v cuts) (hcp : cuts = [] → PV v) :
  Calls Tryz.prog 14 #[.agg #[.int .i64 m.c, .int .i64 m.d, .int .i64 m.s, .int .i64 m.e, .int .i64 m.l, u], v, .int .i64 limit] W fun e' w' => ∃ v', e' = .returned (.tuple #[v', .int .i64 (nextDAns m t cuts limit).2]) ∧ F2 W.heap.size w' v' (nextDAns m t cuts limit).1 ∧ Below W.heap.size W w' := by
 have hE1 := eqlNilR
 have hE2 := eqlSomeR
 obtain ⟨a, c, rfl, hmx⟩ := h.form
 obtain ⟨a', c', rfl, hmx'⟩ := hc.form
 obtain ⟨W1, hW1, hB01, hz01, HZ01, hc01, hh01⟩ := box_facts W #[.int .i64 m.c, .int .i64 m.d, .int .i64 m.s, .int .i64 m.e, .int .i64 m.l, .slice a t.length c] 28
 have hV1 : V2 (fun _ => True) W1 (.slice a t.length c) t := (h.below hB01).any
 have hC1 : V2 (fun _ => True) W1 (.slice a' cuts.length c') cuts := (hc.below hB01).any
 have hsc := searchCode_any m _ _ t cuts limit W1 hV1 hC1
 by_cases hp : searchC m t cuts limit = 0
 ·obtain ⟨hok, hlim, hop⟩ := searchC_ok.1 hp
  rw [hp] at hsc
  obtain ⟨L, rfl⟩ : ∃ L : Nat, limit = (L : Int) := ⟨limit.toNat, by omega⟩
  by_cases hlt : cuts.length < t.length
  ·have hfin : nextDAns m t cuts (L : Int) = ([], 5) := by unfold nextDAns; rw [if_neg (by rw [hp]; simp), if_pos hlt]
   rw [hfin]
   have hltI : decide (cuts.length < t.length) = true := decide_eq_true (by omega)
   have H := Lib.hid (And.intro hsc hfin); clear hsc hfin hp hok hlim hop
   go_enter Tryz.func14, Tryz.ntmps14
   go_wp2_with fail
   rw [← hW1]
   refine H.out.1.mono ?_
   rintro e' w2 ⟨rfl, hb2⟩
   have hz2 := hb2.size
   have hx2 : ∀ o, w2.cell? ⟨W.heap.size, o, none⟩ = (#[.int .i64 m.c, .int .i64 m.d, .int .i64 m.s, .int .i64 m.e, .int .i64 m.l, .slice a t.length c] : Array Value)[o]? := fun o => by rw [(bcell hb2).1 _ _ hz01, hc01]
   clear hc01 hh01
   go_wp2_with fail
   go_ret2
   exact ⟨_, rfl, F2.nil5, hB01.trans (hb2.mono (by omega))⟩
  ·have hfin : nextDAns m t cuts (L : Int) = ((pickA (nextF m m.c.toNat t cuts L cuts.length (0, false, []))).1, (pickA (nextF m m.c.toNat t cuts L cuts.length (0, false, []))).2.2) := by unfold nextDAns; rw [if_neg (by rw [hp]; simp), if_neg hlt]; rfl
   rw [hfin]
   obtain ⟨res, hres⟩ : ∃ r, nextF m m.c.toNat t cuts L cuts.length (0, false, []) = r := ⟨_, rfl⟩
   rw [hres]
   have hfewc := hok.few
   have hcl : cuts.length = t.length := by omega
   have hmk := Mk.ok_iff.1 hok.fits.ok
   have hcn : ((m.c.toNat : Nat) : Int) = m.c := by omega
   have hrows := hok.fits.rows
   have hlen6 : cuts.length ≤ 10 := by omega
   have hat : NextAt m m.c.toNat t cuts L res cuts.length (0, false, []) := .inl ⟨⟨rfl, rfl⟩, hres.symm⟩
   have hltI : decide (cuts.length < t.length) = false := decide_eq_false (by omega)
   have H := Lib.hid (And.intro hsc (And.intro hok (And.intro hlim (And.intro hop (And.intro hcl (And.intro hcn (And.intro hat hfin))))))); clear hsc hok hlim hop hcl hcn hat hfin hp hres hmk hrows hfewc hlt
   go_enter Tryz.func14, Tryz.ntmps14
   go_wp2_with fail
   rw [← hW1]
   refine H.out.1.mono ?_
   rintro e' w2 ⟨rfl, hb2⟩
   have hz2 := hb2.size
   have hx2 : ∀ o, w2.cell? ⟨W.heap.size, o, none⟩ = (#[.int .i64 m.c, .int .i64 m.d, .int .i64 m.s, .int .i64 m.e, .int .i64 m.l, .slice a t.length c] : Array Value)[o]? := fun o => by rw [(bcell hb2).1 _ _ hz01, hc01]
   clear hc01 hh01
   have hb2W : Below W.heap.size W w2 := hB01.trans (hb2.mono (by omega))
   obtain ⟨WA, hWA⟩ : ∃ WA, WA = (w2.alloc (.cells #[.slice none 0 0] 26)).alloc (.cells #[.int .i64 m.c, .int .i64 m.d, .int .i64 m.s, .int .i64 m.e, .int .i64 m.l, .slice a t.length c, .int .i64 (L : Int), .int .i64 0, .bool false, .func (.func 99) #[] #[.pointer (some ⟨w2.heap.size, 0, none⟩)]] 103) := ⟨_, rfl⟩
   have hbA : Below w2.heap.size w2 WA := by rw [hWA]; exact by (repeat (first | (with_reducible refine Below.setCell ?_ ?_ _) | (with_reducible refine Below.alloc ?_ ?_ _) | (with_reducible refine Below.drew ?_) | (with_reducible refine below_drewN ?_ _) | (with_reducible exact Below.refl _ _) | (with_reducible assumption) | (with_reducible refine Below.trans ?_ (Below.mono (by with_reducible assumption) ?_)) | go_size))
   have hzA : WA.heap.size = w2.heap.size + 2 := by rw [hWA]; simp
   have hA0 : WA.heap[w2.heap.size]? = some (.cells #[.slice none 0 0] 26 (0, 0)) := by rw [hWA]; simp only [heap_alloc_at, World.size_alloc]; (repeat rw [if_neg (by omega)]); simp
   have hA1 : WA.heap[w2.heap.size + 1]? = some (.cells (goCells m (.slice a t.length c) L 0 false (.func (.func 99) #[] #[.pointer (some ⟨w2.heap.size, 0, none⟩)])) 103 (0, 0)) := by rw [hWA]; simp only [heap_alloc_at, World.size_alloc]; simp [goCells]
   have hGs : Gs m (.slice a t.length c) L (.func (.func 99) #[] #[.pointer (some ⟨w2.heap.size, 0, none⟩)]) (w2.heap.size + 1) (NdInv W.heap.size w2.heap.size) (0, false, []) (fun b => b = w2.heap.size ∨ (WA.heap.size ≤ b ∧ b < WA.heap.size)) WA :=
    ⟨hA1, ⟨_, WA.heap.size, WA.heap.size, hA0, fun b => Iff.rfl, .inl (by omega), ⟨by omega, Nat.le_refl _⟩, Nat.le_refl _, .inl ⟨rfl, rfl⟩⟩, fun h => by omega, fun b hb => by omega, ⟨Nat.zero_le _, by have := H.out.2.2.1; omega⟩⟩
   have hlo0 : ∀ b, GF (w2.heap.size + 1) (fun b => b = w2.heap.size ∨ (WA.heap.size ≤ b ∧ b < WA.heap.size)) b → w2.heap.size ≤ b := fun b hb => by
    rcases hb with rfl | hb <;> omega
   have hz1 := hB01.size
   have hbWA : Below W.heap.size W WA := hb2W.trans (hbA.mono (by omega))
   have HA := Lib.hid (And.intro hGs (And.intro hlo0 (And.intro hbWA (And.intro hWA hbA)))); clear hGs hlo0 hbWA hA0 hA1 hbA hWA
   have hx2a : ∀ ob o, (w2.alloc ob).cell? ⟨W.heap.size, o, none⟩ = (#[.int .i64 m.c, .int .i64 m.d, .int .i64 m.s, .int .i64 m.e, .int .i64 m.l, .slice a t.length c] : Array Value)[o]? := fun ob o => by rw [(bcell ((Below.refl w2.heap.size w2).alloc (Nat.le_refl _) ob)).1 _ _ (by omega), hx2]
   go_wp2_with fail
   rw [← HA.out.2.2.2.1]
   clear hx2 hx2a
   go_loopw [11] (fun i wr => ∃ (r : Nat) (z : Int) (s : DSt) (F : Nat → Prop), r ≤ cuts.length ∧ Hid (z = (r : Int) - 1) ∧ i = .int .i64 z ∧ NextAt m m.c.toNat t cuts L res r s ∧ exK s ∧ Gs m (.slice a t.length c) L (.func (.func 99) #[] #[.pointer (some ⟨w2.heap.size, 0, none⟩)]) (w2.heap.size + 1) (NdInv W.heap.size w2.heap.size) s F wr ∧ (∀ b, GF (w2.heap.size + 1) F b → w2.heap.size ≤ b) ∧ Below W.heap.size W wr ∧ Below w2.heap.size w2 wr) (fun i _ => (intOf i + 1).toNat)
   case atStart => exact ⟨cuts.length, _, (0, false, []), _, Nat.le_refl _, Lib.hid rfl, rfl, H.out.2.2.2.2.2.2.1, fun h => rfl, HA.out.1, HA.out.2.1, HA.out.2.2.1, HA.out.2.2.2.2⟩
   case round =>
    obtain ⟨r, z, ⟨s1, s2, sl⟩, F, hr, Hz, rfl, hat, hexk, hG, hlo, hB, hB2⟩ := hrel
    have hzr := hB.size
    have hzr2 := hB2.size
    have Hhat := Lib.hid hat
    by_cases hr0 : r = 0
    ·subst hr0
     have hz : z < 0 := by have := Hz.out; omega
     have hzd : decide (0 ≤ z) = false := decide_eq_false (by omega)
     have HQ := Lib.hid (And.intro hat.last hexk)
     clear hat hexk hz Hz Hhat
     have hex : s2 = true → sl = [] := HQ.out.2
     obtain ⟨rv, LL, UU, g1, g2, g3, g4, g5, g6⟩ := hG.vi
     have cD := cell_of_block g1 0
     simp at cD
     have cB : wr.cell? ⟨w2.heap.size + 1, 8, none⟩ = some (.bool s2) := by rw [hG.cell]; rfl
     have HB := Lib.hid hB
     cases hs2 : s2
     ·rcases g6 with ⟨g7, rfl⟩ | ⟨d, g7, g8, g9⟩
      ·first
       | exact absurd (show actK (s1, s2, sl) from ⟨hs2, g7⟩) Ha.out
       | (have hres : pickA res = ([], 0, 4) := by rw [HQ.out.1, show sl = [] from g7, hs2]; rfl
          rw [hs2] at cB
          have Hr := Lib.hid hres; clear hres g1 g2 g3 g4 g5 g7 hG hB hex hs2
          go_wp2_with fail
          go_ret2
          rw [Hr.out]
          exact ⟨_, rfl, F2.nil5, HB.out⟩)
      ·have g7 : sl = [d] := g7
       have hres : (pickA res).1 = d ∧ (pickA res).2.2 = 0 := by rw [HQ.out.1, g7]; exact ⟨rfl, rfl⟩
       rw [hs2] at cB
       have hF : F2 W.heap.size wr rv d := g9.f2.mono (by omega)
       obtain ⟨ra, rc, rfl, _⟩ := hF.v2.form
       obtain ⟨rb, ro, _, _, rfl, _⟩ := hF.v2.cell (k := 0) (List.length_pos_iff.2 g8)
       have Hr := Lib.hid (And.intro hres hF); clear hres g1 g2 g3 g4 g5 g7 g8 g9 hG hB hex hs2 hF
       go_wp2_with fail
       go_ret2
       rw [Hr.out.1.1, Hr.out.1.2]
       exact ⟨_, rfl, Hr.out.2, HB.out⟩
     ·have hsl := hex hs2
      have hres : pickA res = ([], 0, 3) := by rw [HQ.out.1, hsl, hs2]; rfl
      obtain rfl : rv = .slice none 0 0 := by
       rcases g6 with ⟨_, h⟩ | ⟨d, h, _⟩
       ·exact h
       ·have h : sl = [d] := h
        rw [hsl] at h; cases h
      rw [hs2] at cB
      have Hr := Lib.hid hres; clear hres g1 g2 g3 g4 g5 g6 hG hB hex hs2 hsl
      go_wp2_with fail
      go_ret2
      rw [Hr.out]
      exact ⟨_, rfl, F2.nil5, HB.out⟩
    ·obtain ⟨k, rfl⟩ : ∃ k, r = k + 1 := ⟨r - 1, by omega⟩
     have hzk : z = (k : Int) := by have := Hz.out; omega
     subst hzk
     by_cases ha : actK (s1, s2, sl)
     ·have ha1 : s2 = false := ha.1
      have ha2 : sl = [] := ha.2
      subst ha1
      subst ha2
      have hstep := hat.step ha
      have hex2 := backF_exK (m := m) (n := m.c.toNat) (t := t) (cuts := cuts) (limit := L) (row := k) ha
      obtain ⟨rv, LL, UU, g1, g2, g3, g4, g5, g6⟩ := hG.vi
      obtain rfl : rv = .slice none 0 0 := by
       rcases g6 with ⟨_, h⟩ | ⟨d, h, _⟩
       ·exact h
       ·cases h
      have cD := cell_of_block g1 0
      simp at cD
      have cB : wr.cell? ⟨w2.heap.size + 1, 8, none⟩ = some (.bool false) := by rw [hG.cell]; rfl
      clear g1 g2 g3 g4 g5 g6 hat Hhat hexk Hz
      have hCr : V2 (fun b => b < w2.heap.size) wr (.slice a' cuts.length c') cuts := ((hC1.below hb2).old.below hB2)
      have hVr : V2 (fun b => b < w2.heap.size) wr (.slice a t.length c) t := ((hV1.below hb2).old.below hB2)
      obtain ⟨cb, co, ra, rc, rfl, hcbS, hcc, hcr⟩ := hCr.cell (k := k) (by omega)
      have hkk := allKeys_iff.1 H.out.2.1.keys k (by omega)
      have hkl := (isKey_iff.1 hkk).1
      obtain ⟨rb, ro, rfl, _⟩ := hcr.cell (k := 0) (by have := Mk.ok_iff.1 H.out.2.1.fits.ok; omega)
      have hTk := hCr.take (n := k) (by omega)
      have hcap := hCr.cap
      have hkc : ¬ c' < k := by omega
      have hkn : ¬ cuts.length ≤ k := by omega
      have hcl := H.out.2.2.2.2.1
      have hno : ∀ b, b < w2.heap.size → ¬ GF (w2.heap.size + 1) F b := fun b hb h => by have := hlo b h; omega
      have hgo := goBack_any (nd_vis W.heap.size w2.heap.size (m := m) (t := t)) m t m.c.toNat H.out.2.2.2.2.2.1 (fun ds h1 h2 h3 => ⟨⟨h1, by omega⟩, fun e => by have := h1.fits.rows; rw [e] at h2; simp at h2; omega⟩) L (.slice a t.length c) (w2.heap.size + 1) (t.length - k - 1) (getl cuts k) ⟨rb, ro, none⟩ rc hkk (cuts.take k) (.slice (some ⟨cb, co, none⟩) k c') (s1, false, []) F wr.drew (by rw [List.length_take]; omega) (hcr.mono (fun b h1 _ => hno b h1) (fun _ _ _ => rfl))
       ⟨hG.below (nd_vis W.heap.size w2.heap.size (m := m) (t := t)) ((Below.refl _ _).drew), hVr.mono (fun b h1 _ => hno b h1) (fun _ _ _ => rfl), hTk.mono (fun b h1 _ => hno b h1) (fun _ _ _ => rfl), fun _ => .inr ⟨_, _, _, _, rfl⟩, H.out.2.1.take k, open_take (fun j hj => by have := H.out.2.1.fits.lens j hj; omega) H.out.2.2.2.1, by show ((0 : Nat) : Int) < 1; decide⟩
      obtain ⟨q, hq⟩ : ∃ q, backF m m.c.toNat t cuts L k (s1, false, []) = q := ⟨_, rfl⟩
      have hq2 : runL (goStep L (stayP m.c.toNat t) (goF L (stayP m.c.toNat t) (visK 1) (keysOf m) (t.length - k - 1)) (cuts.take k)) (s1, false, []) (behind m (getl cuts k)) = q := hq
      rw [hq2] at hgo
      rw [hq] at hstep hex2
      have hge : decide (0 ≤ (k : Int)) = true := decide_eq_true (by omega)
      have hS0 : wr.drew.cell? ⟨cb, co + k, none⟩ = some (.slice (some ⟨rb, ro, none⟩) (getl cuts k).length rc) := hcc
      have HK := Lib.hid (And.intro hgo (And.intro hstep (And.intro hex2 (And.intro hlo (And.intro hB (And.intro hB2 hcbS))))))
      clear hgo hstep hex2 hlo hB hB2 hCr hVr hcr hTk hq hq2 hG hkk hkl hno ha hcl hcap
      go_wp2_with fail
      refine wp_region_noPanic ?_
      refine wp_region_held_drew (S := fun w' => w'.cell? ⟨cb, co + k, none⟩ = some (.slice (some ⟨rb, ro, none⟩) (getl cuts k).length rc)) (by kernel_rfl) hS0 (fun hHeld => ?_)
      (refine wpAnyH_take (i := 0) (v := .pointer (some ⟨w2.heap.size + 1, 0, none⟩)) rfl (by kernel_rfl) (by kernel_rfl) (by kernel_rfl) (fun _ _ _ h => h) (Or.inl ⟨by kernel_rfl, fun w hSw => by (try dsimp only at hSw); go_split_ands; go_simp⟩) (by assumption) ?_; simp only [Act.put, List.setIfInBounds_toArray, List.set_cons_zero, List.set_cons_succ])
      (refine wpAnyH_take (i := 1) (v := .slice (some ⟨cb, co, none⟩) cuts.length c') rfl (by kernel_rfl) (by kernel_rfl) (by kernel_rfl) (fun _ _ _ h => h) (Or.inl ⟨by kernel_rfl, fun w hSw => by (try dsimp only at hSw); go_split_ands; go_simp⟩) (by assumption) ?_; simp only [Act.put, List.setIfInBounds_toArray, List.set_cons_zero, List.set_cons_succ])
      (refine wpAnyH_take (i := 2) (v := .int .i64 (k : Int)) rfl (by kernel_rfl) (by kernel_rfl) (by kernel_rfl) (fun _ _ _ h => h) (Or.inl ⟨by kernel_rfl, fun w hSw => by (try dsimp only at hSw); go_split_ands; go_simp⟩) (by assumption) ?_; simp only [Act.put, List.setIfInBounds_toArray, List.set_cons_zero, List.set_cons_succ])
      (refine wpAnyH_take (i := 3) (v := .slice (some ⟨cb, co, none⟩) k c') rfl (by kernel_rfl) (by kernel_rfl) (by kernel_rfl) (fun _ _ _ h => h) (Or.inl ⟨by kernel_rfl, fun w hSw => by (try dsimp only at hSw); go_split_ands; go_simp⟩) (by assumption) ?_; simp only [Act.put, List.setIfInBounds_toArray, List.set_cons_zero, List.set_cons_succ])
      (refine wpAnyH_take (i := 4) (v := .slice (some ⟨cb, co, none⟩) cuts.length c') rfl (by kernel_rfl) (by kernel_rfl) (by kernel_rfl) (fun _ _ _ h => h) (Or.inl ⟨by kernel_rfl, fun w hSw => by (try dsimp only at hSw); go_split_ands; go_simp⟩) (by assumption) ?_; simp only [Act.put, List.setIfInBounds_toArray, List.set_cons_zero, List.set_cons_succ])
      (refine wpAnyH_take (i := 5) (v := .int .i64 (k : Int)) rfl (by kernel_rfl) (by kernel_rfl) (by kernel_rfl) (fun _ _ _ h => h) (Or.inl ⟨by kernel_rfl, fun w hSw => by (try dsimp only at hSw); go_split_ands; go_simp⟩) (by assumption) ?_; simp only [Act.put, List.setIfInBounds_toArray, List.set_cons_zero, List.set_cons_succ])
      (refine wpAnyH_take (i := 6) (v := .pointer (some ⟨cb, co + k, none⟩)) rfl (by kernel_rfl) (by kernel_rfl) (by kernel_rfl) (fun _ _ _ h => h) (Or.inl ⟨by kernel_rfl, fun w hSw => by (try dsimp only at hSw); go_split_ands; go_simp⟩) (by assumption) ?_; simp only [Act.put, List.setIfInBounds_toArray, List.set_cons_zero, List.set_cons_succ])
      (refine wpAnyH_take (i := 7) (v := .slice (some ⟨rb, ro, none⟩) (getl cuts k).length rc) rfl (by kernel_rfl) (by kernel_rfl) (by kernel_rfl) (fun _ _ _ h => h) (Or.inl ⟨by kernel_rfl, fun w hSw => by (try dsimp only at hSw); go_split_ands; go_simp⟩) (by assumption) ?_; simp only [Act.put, List.setIfInBounds_toArray, List.set_cons_zero, List.set_cons_succ])
      refine wpAnyH_ready (rs := [8]) (by kernel_rfl) (by simp) (AllReadyH.cons rfl (fun K hK => ?_) AllReadyH.nil)
      go_simp
      refine HK.out.1.mono ?_
      rintro e' wq ⟨F', rfl, g1, g2, g3⟩
      have hlo := HK.out.2.2.2.1
      have hcb := lt_of_cell hS0
      have hcb2 : cb < w2.heap.size := HK.out.2.2.2.2.2.2
      have hSq : wq.cell? ⟨cb, co + k, none⟩ = some (.slice (some ⟨rb, ro, none⟩) (getl cuts k).length rc) := cell_keep hS0 (g2.block cb hcb (fun h => by have h1 := hlo cb h; omega))
      have hlo' : ∀ b, GF (w2.heap.size + 1) F' b → w2.heap.size ≤ b := fun b hb => by
       rcases g3 b hb with h | h
       ·exact hlo b h
       ·simp only [World.size_drew] at h; omega
      have hBq2 : Below w2.heap.size w2 wq := HK.out.2.2.2.2.2.1.drew.trans (g2.to_below (B := w2.heap.size) hlo (by simpa using hzr2))
      have hBq : Below W.heap.size W wq := HK.out.2.2.2.2.1.drew.trans (g2.to_below (B := W.heap.size) (fun b hb => by have := hlo b hb; omega) (by simpa using hzr))
      have HF := Lib.hid (And.intro g1 (And.intro hlo' (And.intro hBq hBq2))); clear g1 g2 g3 hlo' hBq hBq2 hlo
      dsimp only
      (refine hK.out _ _ hSq (fun hHeld => ?_); clear hK K; (try simp only [Act.put, List.setIfInBounds_toArray, List.set_cons_zero, List.set_cons_succ]))
      refine wpAnyH_done (by kernel_rfl) (NoPanic.normal ?_) _
      go_wp2_with fail
      go_roundw
      case rel => exact ⟨k, _, q.1, F', by omega, Lib.hid rfl, by go_num, HK.out.2.1, HK.out.2.2.1, HF.out.1, HF.out.2.1, HF.out.2.2.1, HF.out.2.2.2⟩
      case measure => simp [intOf]; try omega
     ·have HQ := Lib.hid (And.intro (hat.stop ha) hexk)
      have hge : decide (0 ≤ (k : Int)) = true := decide_eq_true (by omega)
      have Ha := Lib.hid ha
      clear hat hexk Hz Hhat ha
      have hex : s2 = true → sl = [] := HQ.out.2
      obtain ⟨rv, LL, UU, g1, g2, g3, g4, g5, g6⟩ := hG.vi
      have cD := cell_of_block g1 0
      simp at cD
      have cB : wr.cell? ⟨w2.heap.size + 1, 8, none⟩ = some (.bool s2) := by rw [hG.cell]; rfl
      have HB := Lib.hid hB
      cases hs2 : s2
      ·rcases g6 with ⟨g7, rfl⟩ | ⟨d, g7, g8, g9⟩
       ·first
        | exact absurd (show actK (s1, s2, sl) from ⟨hs2, g7⟩) Ha.out
        | (have hres : pickA res = ([], 0, 4) := by rw [HQ.out.1, show sl = [] from g7, hs2]; rfl
           rw [hs2] at cB
           have Hr := Lib.hid hres; clear hres g1 g2 g3 g4 g5 g7 hG hB hex hs2
           go_wp2_with fail
           go_ret2
           rw [Hr.out]
           exact ⟨_, rfl, F2.nil5, HB.out⟩)
       ·have g7 : sl = [d] := g7
        have hres : (pickA res).1 = d ∧ (pickA res).2.2 = 0 := by rw [HQ.out.1, g7]; exact ⟨rfl, rfl⟩
        rw [hs2] at cB
        have hF : F2 W.heap.size wr rv d := g9.f2.mono (by omega)
        obtain ⟨ra, rc, rfl, _⟩ := hF.v2.form
        obtain ⟨rb, ro, _, _, rfl, _⟩ := hF.v2.cell (k := 0) (List.length_pos_iff.2 g8)
        have Hr := Lib.hid (And.intro hres hF); clear hres g1 g2 g3 g4 g5 g7 g8 g9 hG hB hex hs2 hF
        go_wp2_with fail
        go_ret2
        rw [Hr.out.1.1, Hr.out.1.2]
        exact ⟨_, rfl, Hr.out.2, HB.out⟩
      ·have hsl := hex hs2
       have hres : pickA res = ([], 0, 3) := by rw [HQ.out.1, hsl, hs2]; rfl
       obtain rfl : rv = .slice none 0 0 := by
        rcases g6 with ⟨_, h⟩ | ⟨d, h, _⟩
        ·exact h
        ·have h : sl = [d] := h
         rw [hsl] at h; cases h
       rw [hs2] at cB
       have Hr := Lib.hid hres; clear hres g1 g2 g3 g4 g5 g6 hG hB hex hs2 hsl
       go_wp2_with fail
       go_ret2
       rw [Hr.out]
       exact ⟨_, rfl, F2.nil5, HB.out⟩
 ·have hfin : nextDAns m t cuts limit = ([], searchC m t cuts limit) := by unfold nextDAns; rw [if_pos hp]
  have e1 : (searchC m t cuts limit != 0) = true := by simp [hp]
  rw [hfin]
  have H := Lib.hid (And.intro hsc hfin); clear hsc hfin hp
  generalize searchC m t cuts limit = pc at *
  go_enter Tryz.func14, Tryz.ntmps14
  go_wp2_with fail
  rw [← hW1]
  refine H.out.1.mono ?_
  rintro e' w2 ⟨rfl, hb2⟩
  have hz2 := hb2.size
  have hx2 : ∀ o, w2.cell? ⟨W.heap.size, o, none⟩ = (#[.int .i64 m.c, .int .i64 m.d, .int .i64 m.s, .int .i64 m.e, .int .i64 m.l, .slice a t.length c] : Array Value)[o]? := fun o => by rw [(bcell hb2).1 _ _ hz01, hc01]
  clear hc01 hh01
  clear hx2
  go_wp2_with fail
  go_ret2
  exact ⟨_, rfl, F2.nil5, hB01.trans (hb2.mono (by omega))⟩
end Go.Proofs.YtmaefilliggjiaaGreat
