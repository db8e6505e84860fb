/- The reference's draws of plans. No conditions. -/
import Derived.Test.YtbekpololmahoaaGreatDoorMDraw6
namespace Go.Proofs.YtbekpololmahoaaGreatDoor
open Go.RowKit
set_option linter.unusedVariables false
set_option linter.unusedSimpArgs false
theorem put3_facts {B0 SB RB : Nat} {W w : World} {c0 c1 c2 : Value} {T : TypeId} (hs : Src B0 SB w) (ho : Only SB W w) (h : w.heap[RB]? = some (.cells #[c0, c1, c2] T (0, 0))) (n1 : RB ≠ SB) (n2 : W.heap.size ≤ RB) (n3 : B0 ≤ RB) (v0 v1 v2 : Value) (w' : World) (he : w' = ((w.setCell ⟨RB, 0, none⟩ v0).setCell ⟨RB, 1, none⟩ v1).setCell ⟨RB, 2, none⟩ v2) :
  Src B0 SB w' ∧ Only SB W w' ∧ w'.heap[RB]? = some (.cells #[v0, v1, v2] T (0, 0)) ∧ ∀ b, b ≠ RB → w'.heap[b]? = w.heap[b]? := by
 subst he
 refine ⟨((hs.only n1 n3 v0 rfl).only n1 n3 v1 rfl).only n1 n3 v2 rfl, ((ho.setNew n2 v0).setNew n2 v1).setNew n2 v2, ?_, fun b hb => ?_⟩
 ·rw [heap_setCell_self (heap_setCell_self (heap_setCell_self h _) _) _]
  simp
 ·rw [heap_setCell_other _ hb, heap_setCell_other _ hb, heap_setCell_other _ hb]
/-- All rows have at most so many entries. -/
def Rows (n : Nat) (R : List (List Int)) : Prop := ∀ j, j < R.length → (getl R j).length ≤ n
theorem Rows.snoc {n : Nat} {R : List (List Int)} {l : List Int} (h : Rows n R) (hl : l.length ≤ n) : Rows n (R ++ [l]) := fun j hj => by
 by_cases hjl : j < R.length
 ·rw [getl_app1 hjl]; exact h j hjl
 ·have e : j = R.length := by simp at hj; omega
  subst e; rw [getl_app2]; exact hl
set_option maxRecDepth 100000 in
set_option maxHeartbeats 4000000 in
theorem l10Valid_any (B0 SB : Nat) (W : World) (h : Src B0 SB W) :
  Calls Tryz.prog 138 #[.pointer (some ⟨SB, 0, none⟩)] W fun e w' => ∃ (P : List Int) (D : List Bool) (R : List (List Int)) (pa da ra : Option Addr) (pc dc rc : Nat), e = .returned (.agg #[.slice pa P.length pc, .slice da D.length dc, .slice ra R.length rc]) ∧ (Bld P D ∧ V1 (fun b => W.heap.size ≤ b) w' (.slice pa P.length pc) P ∧ VBo (fun b => W.heap.size ≤ b) w' (.slice da D.length dc) D ∧ V2 (fun b => W.heap.size ≤ b) w' (.slice ra R.length rc) R ∧ (1 ≤ R.length ∧ R.length ≤ 4) ∧ Rows P.length R) ∧ Src B0 SB w' ∧ Only SB W w' := by
 have hSl := h.lt
 have hB0 : B0 ≤ SB := h.1
 obtain ⟨W1, hW1, hB01, hz01, HZ01, _, hh01⟩ := box_facts W #[.slice none 0 0, .slice none 0 0, .slice none 0 0] 165
 have hs1' := h.below hB01
 have HL := Lib.hid (And.intro hs1' (And.intro hB01 (And.intro hh01 hW1))); clear hs1' h hh01 hB01
 go_enter Tryz.func138, Tryz.ntmps138
 go_wp2_with fail
 rw [← hW1]
 clear hW1
 refine (l09Valid_any B0 SB _ HL.out.1).mono ?_
 rintro e' w2 ⟨P, D, pa, da, pc, dc, rfl, ⟨hBld, hVP, hVD⟩, hs2, ho2⟩
 have hz2 := ho2.size
 obtain ⟨w3, hw3⟩ : ∃ w3, w3 = w2.alloc (.cells #[.slice pa P.length pc, .slice da D.length dc] 163) := ⟨_, rfl⟩
 have hb23 : Below w2.heap.size w2 w3 := by rw [hw3]; exact (Below.refl _ _).alloc (Nat.le_refl _) _
 have hM3 : w3.heap[w2.heap.size]? = some (.cells #[.slice pa P.length pc, .slice da D.length dc] 163 (0, 0)) := by rw [hw3]; exact heap_alloc_self _ _
 have hR3 : w3.heap[W.heap.size]? = some (.cells #[.slice none 0 0, .slice none 0 0, .slice none 0 0] 165 (0, 0)) := (hb23.block _ (by omega)).trans (ho2.heap HL.out.2.2.1 (fun e => by omega))
 have ho3 : Only SB W w3 := ((Only.of_below HL.out.2.1).trans ho2).then_below hb23
 have hz3 : w2.heap.size < w3.heap.size := lt_of_heap hM3
 have HZ3 := Lib.hid (show w3.heap.size = w2.heap.size + 1 by rw [hw3]; exact alloc_sz _ _)
 have hbL : Below w3.heap.size w3 (w3.alloc (.cells #[] 57)) := (Below.refl _ _).alloc (Nat.le_refl _) _
 have hO0 : OV w3.heap.size (w3.alloc (.cells #[] 57)) (.slice (some ⟨w3.heap.size, 0, none⟩) 0 0) [] := OV.nil (own_lit0 w3 w3.heap.size 57 1 (Nat.le_refl _))
 have HV := Lib.hid (And.intro hBld (And.intro (hVP.below hb23) (hVD.below hb23))); clear hBld hVP hVD
 have H3 := Lib.hid (And.intro ((hs2.below hb23).below hbL) (And.intro ho3 (And.intro hM3 (And.intro hR3 (And.intro hw3 (And.intro hO0 (Only.of_below (SB := SB) hbL))))))); clear hs2 ho2 hb23 hM3 hR3 ho3 hw3 hbL hO0
 have hP10 : 2 ≤ P.length ∧ P.length ≤ 10 := HV.out.1.1
 go_wp2_with fail
 rw [← H3.out.2.2.2.2.1]
 go_wp2_with fail
 refine (l01Next_any B0 SB 4 _ H3.out.1).mono ?_
 rintro e' w4 ⟨x, rfl, ⟨hx0, hx1⟩, hs4, ho4⟩
 obtain ⟨N, hN⟩ : ∃ N : Nat, (N : Int) = 1 + x := ⟨(1 + x).toNat, by omega⟩
 have hN4 : 1 ≤ N ∧ N ≤ 4 := by omega
 have H4 := Lib.hid (And.intro hs4 (And.intro (H3.out.2.2.2.2.2.2.trans ho4) (H3.out.2.2.2.2.2.1.only ho4 (by omega)))); clear hs4 ho4
 go_wp2_with fail
 rw [← hN]
 clear hN hx0 hx1
 go_loopw [4, 5] (fun cv i wr => ∃ (k : Nat) (R : List (List Int)), k + R.length = N ∧ i = .int .i64 (k : Int) ∧ Rows P.length R ∧ OV w3.heap.size wr cv R ∧ Src B0 SB wr ∧ Only SB w3 wr) (fun _ i _ => (intOf i).toNat)
 case atStart => exact ⟨N, [], rfl, rfl, fun j hj => by simp at hj, (by have h9 := H4.out.2.2; rw [← HZ3.out]; exact h9), H4.out.1, H4.out.2.1⟩
 case round =>
  obtain ⟨k, R, hkR, rfl, hRow, hO, hsr, hor⟩ := hrel
  have hzr := hor.size
  have hM := hor.heap H3.out.2.2.1 (fun e => by omega)
  have hc : ∀ o, wr.cell? ⟨w2.heap.size, o, none⟩ = (#[.slice pa P.length pc, .slice da D.length dc] : Array Value)[o]? := fun o => by rw [cell_of_block hM]
  obtain ⟨oa, oc, rfl, _, _⟩ := hO.form
  obtain ⟨wo, rfl⟩ : ∃ x, x = wr := ⟨_, rfl⟩
  by_cases hkk : 0 < k
  ·have hd : decide (0 < k) = true := decide_eq_true hkk
   have HK := Lib.hid hkk
   have hk9 : k ≤ 4 := by omega
   obtain ⟨vs, hvs, hrv⟩ := hO
   have HR := Lib.hid (And.intro hkR (And.intro hRow (And.intro hvs (And.intro hrv (And.intro hsr hor))))); clear hkR hRow hvs hrv hsr hor hM
   go_wp2_with fail
   refine (l10DrawNodes_any B0 SB P.length _ _ _ _ _ (by omega) _ HR.out.2.2.2.2.1).mono ?_
   rintro e' w5 ⟨nv, ns, rfl, ⟨hnf, ⟨hn1, hn2⟩, hnn⟩, hs5, ho5⟩
   have hnv := hnf.v1
   obtain ⟨na, nc, rfl, _⟩ := hnv.form
   have hvs5 := own_only HR.out.2.2.1 ho5 (by omega)
   have hl9 : R.length ≤ 1000 := by have := HR.out.1; omega
   have hz5 := ho5.size
   have H5 := Lib.hid (And.intro hnv (And.intro hn2 (And.intro hs5 ho5))); clear hnv hnf hn1 hn2 hnn hs5 ho5 hc
   go_wp2_with (at_builtin; refine wp_app1 _ rfl _ _ 33 rfl w3.heap.size 57 (.slice none 0 0) 24 Tryz.underlying33 inf_ints rfl _ _ _ rfl hvs5 (.slice na ns.length nc) _ rfl rfl (by omega) (by omega) (by omega) ?_; intro v1 w1 hown1 hgrow1 hblk1 hB1)
   have hP := OV.push HR.out.2.2.1 HR.out.2.2.2.1 hzr hz5 (fun b h1 h2 => H5.out.2.2.2.block b h2 (fun e => by omega)) H5.out.1 hown1 hgrow1 hblk1
   have hg1 : Chg (fun i => w3.heap.size ≤ i) w5 w1 := (Chg.refl _ _).grown hgrow1 (fun g hg => .inl (hvs5.lt g hg).1)
   have hsr1 := H5.out.2.2.1.keep hg1 (fun b hb => ⟨by omega, by omega⟩)
   have hoW1 : Only SB w3 w1 := Chg.trans (HR.out.2.2.2.2.2.trans H5.out.2.2.2) (G := fun i => w3.heap.size ≤ i) hg1 (fun i hi => .inr hi)
   have H6 := Lib.hid (And.intro hsr1 (And.intro hoW1 hP)); clear hsr1 hoW1 hP hg1 hgrow1 hblk1 hB1 hown1 hvs5
   go_roundw
   case rel => exact ⟨k - 1, R ++ [ns], by have := HR.out.1; have := HK.out; simp; omega, by (have := HK.out; go_num), HR.out.2.1.snoc H5.out.2.1, H6.out.2.2, H6.out.1, H6.out.2.1⟩
   case measure => (have := HK.out; simp [intOf]; omega)
  ·have hd : decide (0 < k) = false := decide_eq_false hkk
   have hR6 := hor.heap H3.out.2.2.2.1 (fun e => by omega)
   have hcR : ∀ o, wo.cell? ⟨W.heap.size, o, none⟩ = (#[.slice none 0 0, .slice none 0 0, .slice none 0 0] : Array Value)[o]? := fun o => by rw [cell_of_block hR6]
   have hfR := fun o => frozen_of_block hR6 o
   have hVP := HV.out.2.1.mono (S' := fun b => W.heap.size + 1 ≤ b) (w' := wo) (fun b (h : W1.heap.size ≤ b) _ => by have := HZ01.out; omega) (hor.keep fun b (hb : W1.heap.size ≤ b) e => by omega)
   have hVD := HV.out.2.2.mono (S' := fun b => W.heap.size + 1 ≤ b) (w' := wo) (fun b (h : W1.heap.size ≤ b) _ => by have := HZ01.out; omega) (hor.keep fun b (hb : W1.heap.size ≤ b) e => by omega)
   have HR := Lib.hid (And.intro hkR (And.intro hRow (And.intro hO.v2 (And.intro hsr (And.intro (H3.out.2.1.trans hor) (And.intro hR6 (And.intro hVP hVD))))))); clear hkR hRow hO hsr hor hR6 hVP hVD hM
   go_wp2_with fail
   obtain ⟨wz, hwz⟩ : ∃ wz, wz = ((wo.setCell ⟨W.heap.size, 0, none⟩ (.slice pa P.length pc)).setCell ⟨W.heap.size, 1, none⟩ (.slice da D.length dc)).setCell ⟨W.heap.size, 2, none⟩ (.slice oa R.length oc) := ⟨_, rfl⟩
   rw [← hwz]
   obtain ⟨hz1, hz2, hz3, hz4⟩ := put3_facts HR.out.2.2.2.1 HR.out.2.2.2.2.1 HR.out.2.2.2.2.2.1 (by omega) (Nat.le_refl _) (by omega) _ _ _ _ hwz
   have hc0 : wz.cell? ⟨W.heap.size, 0, none⟩ = some (.slice pa P.length pc) := by rw [cell_of_block hz3]; rfl
   have hc1 : wz.cell? ⟨W.heap.size, 1, none⟩ = some (.slice da D.length dc) := by rw [cell_of_block hz3]; rfl
   have hc2 : wz.cell? ⟨W.heap.size, 2, none⟩ = some (.slice oa R.length oc) := by rw [cell_of_block hz3]; rfl
   have hkp : Keep (fun b => W.heap.size + 1 ≤ b) wo wz := fun b hb _ => hz4 b (by omega)
   have hkp2 : Keep (fun b => w3.heap.size ≤ b) wo wz := fun b hb _ => hz4 b (by omega)
   exact bodyPost_ret (v := .agg #[.slice pa P.length pc, .slice da D.length dc, .slice oa R.length oc]) (by simp [results, Tryz.results138, go_sem, hc0, hc1, hc2]) rfl ⟨P, D, R, pa, da, oa, pc, dc, oc, rfl, ⟨HV.out.1, HR.out.2.2.2.2.2.2.1.mono (fun b h _ => by omega) hkp, HR.out.2.2.2.2.2.2.2.mono (fun b h _ => by omega) hkp, HR.out.2.2.1.mono (fun b h _ => by omega) hkp2, by have := HR.out.1; omega, HR.out.2.1⟩, hz1, hz2⟩
theorem ac_keep {b b1 o1 b2 o2 : Nat} {w0 w w' : World} {cs : Array Value} {v1 v2 : Value} (hb : b < w0.heap.size ∧ b1 < w0.heap.size ∧ b2 < w0.heap.size) (h : (∀ o, w.cell? ⟨b, o, none⟩ = cs[o]?) ∧ w.cell? ⟨b1, o1, none⟩ = some v1 ∧ w.cell? ⟨b2, o2, none⟩ = some v2 ∧ Below w0.heap.size w0 w) (hbb : Below w.heap.size w w') :
  (∀ o, w'.cell? ⟨b, o, none⟩ = cs[o]?) ∧ w'.cell? ⟨b1, o1, none⟩ = some v1 ∧ w'.cell? ⟨b2, o2, none⟩ = some v2 ∧ Below w0.heap.size w0 w' := by
 obtain ⟨h1, h2, h3, h4⟩ := h
 have := h4.size
 exact ⟨fun o => by rw [(bcell hbb).1 _ _ (by omega), h1], by rw [(bcell hbb).1 _ _ (by omega), h2], by rw [(bcell hbb).1 _ _ (by omega), h3], h4.trans (hbb.mono h4.size)⟩
theorem ac_below {b b1 o1 b2 o2 : Nat} {w0 w : World} {cs : Array Value} {v1 v2 : Value} (h : (∀ o, w.cell? ⟨b, o, none⟩ = cs[o]?) ∧ w.cell? ⟨b1, o1, none⟩ = some v1 ∧ w.cell? ⟨b2, o2, none⟩ = some v2 ∧ Below w0.heap.size w0 w) : Below w0.heap.size w0 w := h.2.2.2
/-- Rows that are not empty, and short. -/
def Fill (T : List (List Int)) : Prop := ∀ j, j < T.length → 1 ≤ (getl T j).length ∧ (getl T j).length ≤ 10
theorem Fill.snoc {T : List (List Int)} {l : List Int} (h : Fill T) (hl : 1 ≤ l.length ∧ l.length ≤ 10) : Fill (T ++ [l]) := fun j hj => by
 by_cases hjl : j < T.length
 ·rw [getl_app1 hjl]; exact h j hjl
 ·have e : j = T.length := by simp at hj; omega
  subst e; rw [getl_app2]; exact hl
theorem Out2.baseO {B B' : Nat} {w : World} {v : Value} {ls : List (List Int)} (h : Out2 B w v ls) (hb : B' ≤ B) : Out2 B' w v ls := by
 obtain ⟨vs, bk, h1, h2, h3⟩ := h
 exact ⟨vs, bk, own_base h1 hb, h2, fun k hk hn => by obtain ⟨h4, h5⟩ := h3 k hk hn; exact ⟨by omega, h5⟩⟩
set_option maxRecDepth 100000 in
set_option maxHeartbeats 4000000 in
theorem l10Access_any {S S2 S3 : Nat → Prop} (P : List Int) (D : List Bool) (R : List (List Int)) (pa da ra : Option Addr) (pc dc rc : Nat) (hB : Bld P D) (hR4 : R.length ≤ 4) (hRow : Rows P.length R) (W : World) (h : V1 S W (.slice pa P.length pc) P) (h2 : VBo S2 W (.slice da D.length dc) D) (h3 : V2 S3 W (.slice ra R.length rc) R) :
  Calls Tryz.prog 137 #[.agg #[.slice pa P.length pc, .slice da D.length dc, .slice ra R.length rc]] W fun e w' => ∃ v T, e = .returned v ∧ (Out2 W.heap.size w' v T ∧ T.length = R.length ∧ Fill T) ∧ Below W.heap.size W w' := by
 have hP10 := hB.1
 have h := h.old
 have h2 := h2.mono (S' := fun b => b < W.heap.size) (fun _ _ h => h) (fun _ _ _ => rfl)
 have h3 := h3.old
 obtain ⟨W1, hW1, hB01, hz01, HZ01, hc01, hh01⟩ := box_facts W #[.slice pa P.length pc, .slice da D.length dc, .slice ra R.length rc] 165
 have HL := Lib.hid (And.intro (h.below hB01) (And.intro (h2.below hB01) (And.intro (h3.below hB01) (And.intro hB01 (And.intro hh01 (And.intro hB hRow)))))); clear h h2 h3 hB01 hh01 hB hRow
 go_enter Tryz.func137, Tryz.ntmps137
 go_wp2_with fail
 rw [← hW1]
 clear hW1
 refine (l09Doors_any P D _ _ _ _ HL.out.2.2.2.2.2.1 W1 HL.out.1 HL.out.2.1).mono ?_
 rintro e' w3 ⟨dv, ds, rfl, ⟨hdf, ⟨hds1, hds2⟩, hnod⟩, hb3⟩
 have hdv := hdf.v1
 obtain ⟨ea, ec, rfl, _⟩ := hdv.form
 have hz3 := hb3.size
 have hO0 := Out2.start w3 w3.heap.size (Nat.le_refl _)
 have hbL : Below w3.heap.size w3 (w3.alloc (.cells #[] 57)) := (Below.refl _ _).alloc (Nat.le_refl _) _
 have H3 := Lib.hid (And.intro hdv.old (And.intro (HL.out.1.below hb3) (And.intro (HL.out.2.2.1.below hb3) (And.intro (HL.out.2.2.2.1.trans (hb3.mono (by omega))) (And.intro ((hb3.block _ hz01).trans HL.out.2.2.2.2.1) (And.intro hO0 (And.intro hbL hnod))))))); clear hdv hdf hb3 hO0 hbL hnod hc01
 go_wp2_with fail
 go_loopw [4, 5, 6, 7] (fun tv i _ _ wr => ∃ (k : Nat) (T : List (List Int)), k ≤ R.length ∧ i = .int .i64 (k : Int) ∧ T.length = k ∧ Fill T ∧ Out2 w3.heap.size wr tv T ∧ Below w3.heap.size w3 wr) (fun _ i _ _ _ => R.length - (intOf i).toNat)
 case atStart => exact ⟨0, [], Nat.zero_le _, rfl, rfl, fun j hj => by simp at hj, H3.out.2.2.2.2.2.1, H3.out.2.2.2.2.2.2.1⟩
 case round =>
  obtain ⟨k, T, hkR, rfl, hTk, hfil, hO, hBr⟩ := hrel
  have hzr := hBr.size
  have hbox := (hBr.block _ (by omega)).trans H3.out.2.2.2.2.1
  have hc : ∀ o, wr.cell? ⟨W.heap.size, o, none⟩ = (#[.slice pa P.length pc, .slice da D.length dc, .slice ra R.length rc] : Array Value)[o]? := fun o => by rw [cell_of_block hbox]
  obtain ⟨ta, tc, rfl, _, _⟩ := hO.form
  obtain ⟨wo, rfl⟩ : ∃ x, x = wr := ⟨_, rfl⟩
  by_cases hkk : (k : Int) < (R.length : Int)
  ·have hd : decide (k < R.length) = true := decide_eq_true (by omega)
   have hown0 := own_lit0 wo wo.heap.size 2 1 (Nat.le_refl _)
   have hbl : Below wo.heap.size wo (wo.alloc (.cells #[] 2)) := (Below.refl _ _).alloc (Nat.le_refl _) _
   have HR := Lib.hid (And.intro hTk (And.intro hfil (And.intro hO (And.intro hBr (And.intro hown0 (And.intro hbl hbox)))))); clear hTk hfil hO hBr hown0 hbl hbox
   go_wp2_with fail
   go_loopw [6, 7] (fun rv j wr => ∃ (q : Nat) (l : List Int), q ≤ ds.length ∧ j = .int .i64 (q : Int) ∧ l.length = q ∧ wr.ownsRow wo.heap.size 2 1 rv l.length (l.map (Value.int .i64)) ∧ Below wo.heap.size wo wr) (fun _ j _ => ds.length - (intOf j).toNat)
   case atStart => exact ⟨0, [], Nat.zero_le _, rfl, rfl, HR.out.2.2.2.2.1, HR.out.2.2.2.2.2.1⟩
   case round =>
    obtain ⟨q, l, hqC, rfl, hlq, hown, hBi⟩ := hrel
    have hzi := hBi.size
    obtain ⟨oa, oc, rfl, _, _⟩ := own_form hown
    by_cases hqq : (q : Int) < (ds.length : Int)
    ·have hd2 : decide (q < ds.length) = true := decide_eq_true (by omega)
     have hB3 := HR.out.2.2.2.1.trans (hBi.mono (show w3.heap.size ≤ wo.heap.size by omega))
     have hVD := H3.out.1.mono (S' := fun _ => True) (w' := wr) (fun _ _ _ => trivial) (Below.keep hB3 fun b hb _ => hb)
     have hVP := H3.out.2.1.mono (S' := fun _ => True) (w' := wr) (fun _ _ _ => trivial) (Below.keep hB3 fun b (hb : b < W.heap.size) _ => by omega)
     have hVR := H3.out.2.2.1.mono (S' := fun _ => True) (w' := wr) (fun _ _ _ => trivial) (Below.keep hB3 fun b (hb : b < W.heap.size) _ => by omega)
     obtain ⟨b1, off1, a1, c1, rfl, _, hc1, hr1⟩ := hVR.cell (k := k) (by omega)
     obtain ⟨b2, off2, rfl, _, hc2⟩ := hVD.cell (k := q) (by omega)
     have hbb : W.heap.size < wr.heap.size ∧ b1 < wr.heap.size ∧ b2 < wr.heap.size := ⟨by omega, lt_of_cell hc1, lt_of_cell hc2⟩
     have hbx := (hBi.block _ (by omega)).trans HR.out.2.2.2.2.2.2
     have hx' : ∀ o, wr.cell? ⟨W.heap.size, o, none⟩ = (#[.slice pa P.length pc, .slice da D.length dc, .slice (some ⟨b1, off1, none⟩) R.length rc] : Array Value)[o]? := fun o => by rw [cell_of_block hbx]
     have hRk : (getl R k).length ≤ 10 := Nat.le_trans (HL.out.2.2.2.2.2.2 k (by omega)) hP10.2
     have hyr := H3.out.2.2.2.2.2.2.2 q (by omega)
     obtain ⟨y, hy⟩ : ∃ y, geti ds q = y := ⟨_, rfl⟩
     rw [hy] at hc2 hyr
     obtain ⟨u, hu⟩ : ∃ u, mayB P (getl R k) y = u := ⟨_, rfl⟩
     have HU := Lib.hid hu
     have HI := Lib.hid (And.intro hVP (And.intro hr1 (And.intro hown (And.intro HL.out.2.2.2.2.2.1 (And.intro (show -1 ≤ y ∧ y < P.length by omega) (And.intro hBi hlq)))))); clear hVP hVD hVR hr1 hown hBi hlq hbx hyr hy hu hB3 hc
     cases u
     ·
      go_wp2_with fail
      go_region_held3 (fun w' => (∀ o, w'.cell? ⟨W.heap.size, o, none⟩ = (#[.slice pa P.length pc, .slice da D.length dc, .slice (some ⟨b1, off1, none⟩) R.length rc] : Array Value)[o]?) ∧ w'.cell? ⟨b1, off1 + k, none⟩ = some (.slice a1 (getl R k).length c1) ∧ w'.cell? ⟨b2, off2 + q, none⟩ = some (.int .i64 y) ∧ Below wr.heap.size wr w')
       (first | exact ac_keep hbb (by assumption) (by assumption) | exact ⟨hx', hc1, hc2, (Below.refl _ _).drew⟩)
       (first | (go_at_call 151; refine (l10May_f P (getl R k) _ _ _ _ _ _ y HI.out.2.2.2.1.2.2.1 (by omega) HI.out.2.2.2.2.1 (by omega) false (by exact HU.out) _ (HI.out.1.below (ac_below (by assumption))) (HI.out.2.1.below (ac_below (by assumption)))).mono ?_; rintro e' w' ⟨rfl, hb⟩))
      have hBw := ac_below (w0 := wr) (by assumption)
      have hownw := own_keep HI.out.2.2.1 hBw
      have hl9 : l.length ≤ 1000 := by have := HI.out.2.2.2.2.2.2; omega
      have hzw := hBw.size
      have hBo := HI.out.2.2.2.2.2.1.trans (hBw.mono (by omega))
      have HB := Lib.hid (And.intro hBw hBo)
      clear hBo hBw
      go_wp2_with (at_builtin; refine wp_app1 _ rfl _ _ 57 rfl wo.heap.size 2 (.int .i64 0) 8 Tryz.underlying57 inf_int rfl _ _ _ rfl hownw (.int .i64 0) _ rfl rfl (by omega) (by omega) (by omega) ?_; intro v1 w1 hown1 hgrow1 hblk1 hB1)
      have hown4 := own_ints (v := .slice none 0 0) hown1
      have hBo1 := HB.out.2.trans hB1
      have H4 := Lib.hid (And.intro hown4 hBo1); clear hown4 hBo1 hgrow1 hblk1 hB1 hown1 hownw
      go_roundw
      case rel => exact ⟨q + 1, l ++ [0], by omega, by go_num, by have := HI.out.2.2.2.2.2.2; simp; omega, H4.out.1, H4.out.2⟩
      case measure => simp [intOf]; omega
     ·
      go_wp2_with fail
      go_region_held3 (fun w' => (∀ o, w'.cell? ⟨W.heap.size, o, none⟩ = (#[.slice pa P.length pc, .slice da D.length dc, .slice (some ⟨b1, off1, none⟩) R.length rc] : Array Value)[o]?) ∧ w'.cell? ⟨b1, off1 + k, none⟩ = some (.slice a1 (getl R k).length c1) ∧ w'.cell? ⟨b2, off2 + q, none⟩ = some (.int .i64 y) ∧ Below wr.heap.size wr w')
       (first | exact ac_keep hbb (by assumption) (by assumption) | exact ⟨hx', hc1, hc2, (Below.refl _ _).drew⟩)
       (first | (go_at_call 151; refine (l10May_f P (getl R k) _ _ _ _ _ _ y HI.out.2.2.2.1.2.2.1 (by omega) HI.out.2.2.2.2.1 (by omega) true (by exact HU.out) _ (HI.out.1.below (ac_below (by assumption))) (HI.out.2.1.below (ac_below (by assumption)))).mono ?_; rintro e' w' ⟨rfl, hb⟩))
      have hBw := ac_below (w0 := wr) (by assumption)
      have hownw := own_keep HI.out.2.2.1 hBw
      have hl9 : l.length ≤ 1000 := by have := HI.out.2.2.2.2.2.2; omega
      have hzw := hBw.size
      have hBo := HI.out.2.2.2.2.2.1.trans (hBw.mono (by omega))
      have HB := Lib.hid (And.intro hBw hBo)
      clear hBo hBw
      go_wp2_with (at_builtin; refine wp_app1 _ rfl _ _ 57 rfl wo.heap.size 2 (.int .i64 0) 8 Tryz.underlying57 inf_int rfl _ _ _ rfl hownw (.int .i64 1) _ rfl rfl (by omega) (by omega) (by omega) ?_; intro v1 w1 hown1 hgrow1 hblk1 hB1)
      have hown4 := own_ints (v := .slice none 0 0) hown1
      have hBo1 := HB.out.2.trans hB1
      have H4 := Lib.hid (And.intro hown4 hBo1); clear hown4 hBo1 hgrow1 hblk1 hB1 hown1 hownw
      go_roundw
      case rel => exact ⟨q + 1, l ++ [1], by omega, by go_num, by have := HI.out.2.2.2.2.2.2; simp; omega, H4.out.1, H4.out.2⟩
      case measure => simp [intOf]; omega
    ·have hd2 : decide (q < ds.length) = false := decide_eq_false (by omega)
     obtain ⟨rb, hrb, hrbn⟩ := own_F1 hown
     have hO2 := HR.out.2.2.1
     obtain ⟨vs, hvs⟩ := hO2.own
     have hvs2 := own_keep hvs hBi
     have hTl : T.length ≤ 1000 := by have := HR.out.1; omega
     have hll : 1 ≤ l.length ∧ l.length ≤ 10 := by omega
     have HI := Lib.hid (And.intro hBi (And.intro hrb (And.intro hrbn (And.intro hvs hll)))); clear hBi hrb hrbn hvs hll hlq hown hO2 hc
     go_wp2_with (at_builtin; refine wp_app1 _ rfl _ _ 33 rfl w3.heap.size 57 (.slice none 0 0) 24 Tryz.underlying33 inf_ints rfl _ _ _ rfl hvs2 (.slice oa l.length oc) _ rfl rfl (by omega) (by omega) (by omega) ?_; intro v1 w1 hown1 hgrow1 hblk1 hB1)
     have hP := Out2.pushO HR.out.2.2.1 hzr hzi (fun b h1 h2 => HI.out.1.block b h2) HI.out.2.1 HI.out.2.2.1 HI.out.2.2.2.1 hown1 hgrow1 hblk1
     have hBo := (HR.out.2.2.2.1.trans (HI.out.1.mono (show w3.heap.size ≤ wo.heap.size by omega))).trans hB1
     have H4 := Lib.hid (And.intro hP hBo); clear hP hBo hgrow1 hblk1 hB1 hown1 hvs2
     go_roundw
     case rel => exact ⟨k + 1, T ++ [l], by omega, by go_num, by have := HR.out.1; simp; omega, HR.out.2.1.snoc HI.out.2.2.2.2, H4.out.1, H4.out.2⟩
     case measure => simp [intOf]; omega
  ·have hd : decide (k < R.length) = false := decide_eq_false (by omega)
   have hkR2 : T.length = R.length := by omega
   have HR := Lib.hid (And.intro hkR2 (And.intro hfil (And.intro hO hBr))); clear hkR2 hTk hfil hO hBr hbox
   go_wp2_with fail
   go_ret
   exact ⟨_, rfl, ⟨T, HR.out.2.2.1.baseO (by omega), HR.out.1, HR.out.2.1⟩, H3.out.2.2.2.1.trans (HR.out.2.2.2.mono (by omega))⟩
set_option maxRecDepth 100000 in
set_option maxHeartbeats 4000000 in
theorem l11Valid_any (B0 SB : Nat) (W : World) (h : Src B0 SB W) :
  Calls Tryz.prog 117 #[.pointer (some ⟨SB, 0, none⟩)] W fun e w' => ∃ v T, e = .returned v ∧ (Out2 W.heap.size w' v T ∧ (1 ≤ T.length ∧ T.length ≤ 4) ∧ Fill T) ∧ Src B0 SB w' ∧ Only SB W w' := by
 have hSl := h.lt
 have hB0 : B0 ≤ SB := h.1
 have HL := Lib.hid h; clear h
 go_enter Tryz.func117, Tryz.ntmps117
 go_wp2_with fail
 refine (l01Next_any B0 SB 3 _ HL.out).mono ?_
 rintro e' w2 ⟨x, rfl, ⟨hx0, hx1⟩, hs2, ho2⟩
 have hz2 := ho2.size
 by_cases hx : x = 0
 ·subst hx
  have H2 := Lib.hid (And.intro hs2 ho2); clear hs2 ho2
  go_wp2_with fail
  refine (l10Valid_any B0 SB _ H2.out.1).mono ?_
  rintro e' w3 ⟨P, D, R, pa, da, ra, pc, dc, rc, rfl, ⟨hBld, hVP, hVD, hVR, hR, hRow⟩, hs3, ho3⟩
  have hz3 := ho3.size
  have H3 := Lib.hid (And.intro hBld (And.intro hVP (And.intro hVD (And.intro hVR (And.intro hR (And.intro hRow (And.intro hs3 ho3))))))); clear hBld hVP hVD hVR hR hRow hs3 ho3
  go_wp2_with fail
  refine (l10Access_any P D R _ _ _ _ _ _ H3.out.1 H3.out.2.2.2.2.1.2 H3.out.2.2.2.2.2.1 _ H3.out.2.1 H3.out.2.2.1 H3.out.2.2.2.1).mono ?_
  rintro e' w4 ⟨v, T, rfl, ⟨hO, hTl, hF⟩, hb4⟩
  have hR4 := H3.out.2.2.2.2.1
  have H4 := Lib.hid (And.intro (hO.baseO (show W.heap.size ≤ w3.heap.size by omega)) (And.intro (show 1 ≤ T.length ∧ T.length ≤ 4 by omega) (And.intro hF (And.intro (H3.out.2.2.2.2.2.2.1.below hb4) ((H2.out.2.trans H3.out.2.2.2.2.2.2.2).then_below hb4))))); clear hO hTl hF hb4 hR4
  go_wp2_with fail
  go_ret
  exact ⟨_, T, rfl, ⟨H4.out.1, H4.out.2.1, H4.out.2.2.1⟩, H4.out.2.2.2.1, H4.out.2.2.2.2⟩
 ·have hx0d : (x == 0) = false := by simp [hx]
  have H3 := Lib.hid (And.intro hs2 ho2); clear hs2 ho2 hx
  go_wp2_with fail
  refine (l01Next_any B0 SB 4 _ H3.out.1).mono ?_
  rintro e' w4 ⟨x1, rfl, ⟨hx10, hx11⟩, hs4, ho4⟩
  have H4 := Lib.hid (And.intro hs4 (H3.out.2.trans ho4))
  have ho34 := ho4.size
  clear hs4 ho4
  go_wp2_with fail
  refine (l01Next_any B0 SB 5 _ H4.out.1).mono ?_
  rintro e' w5 ⟨x2, rfl, ⟨hx20, hx21⟩, hs5, ho5⟩
  obtain ⟨R, hR⟩ : ∃ R : Nat, (R : Int) = 1 + x1 := ⟨(1 + x1).toNat, by omega⟩
  obtain ⟨C, hC⟩ : ∃ C : Nat, (C : Int) = 1 + x2 := ⟨(1 + x2).toNat, by omega⟩
  have hR4 : 1 ≤ R ∧ R ≤ 4 := by omega
  have hC4 : 1 ≤ C ∧ C ≤ 5 := by omega
  have hz5 := ho5.size
  have hO0 := Out2.start w5 w5.heap.size (Nat.le_refl _)
  have hbL : Below w5.heap.size w5 (w5.alloc (.cells #[] 57)) := (Below.refl _ _).alloc (Nat.le_refl _) _
  have H5 := Lib.hid (And.intro (hs5.below hbL) (And.intro (H4.out.2.trans ho5) (And.intro hO0 (Only.of_below (SB := SB) hbL)))); clear hs5 ho5 hO0 hbL
  go_wp2_with fail
  rw [← hR, ← hC]
  clear hR hC hx10 hx11 hx20 hx21 hx0 hx1
  go_loopw [5, 6, 7, 8] (fun tv i _ _ wr => ∃ (k : Nat) (T : List (List Int)), k ≤ R ∧ i = .int .i64 (k : Int) ∧ T.length = k ∧ Fill T ∧ Out2 w5.heap.size wr tv T ∧ Src B0 SB wr ∧ Only SB w5 wr) (fun _ i _ _ _ => R - (intOf i).toNat)
  case atStart => exact ⟨0, [], Nat.zero_le _, rfl, rfl, fun j hj => by simp at hj, H5.out.2.2.1, H5.out.1, H5.out.2.2.2⟩
  case round =>
   obtain ⟨k, T, hkR, rfl, hTk, hsh, hO, hsr, hor⟩ := hrel
   have hzr := hor.size
   by_cases hkk : (k : Int) < (R : Int)
   ·have hd : decide (k < R) = true := decide_eq_true (by omega)
    obtain ⟨wo, rfl⟩ : ∃ x, x = wr := ⟨_, rfl⟩
    have hown0 := own_lit0 wo wo.heap.size 2 1 (Nat.le_refl _)
    have hbl : Below wo.heap.size wo (wo.alloc (.cells #[] 2)) := (Below.refl _ _).alloc (Nat.le_refl _) _
    have hsl := hsr.below hbl
    have HR := Lib.hid (And.intro hTk (And.intro hsh (And.intro hO (And.intro hor (And.intro hsl (And.intro hown0 (Only.of_below (SB := SB) hbl)))))));  clear hTk hsh hO hor hsl hown0 hbl hsr
    go_wp2_with fail
    go_loopw [7, 8] (fun rv j wr => ∃ (q : Nat) (l : List Int), q ≤ C ∧ j = .int .i64 (q : Int) ∧ l.length = q ∧ wr.ownsRow wo.heap.size 2 1 rv l.length (l.map (Value.int .i64)) ∧ Src B0 SB wr ∧ Only SB wo wr) (fun _ j _ => C - (intOf j).toNat)
    case atStart => exact ⟨0, [], Nat.zero_le _, rfl, rfl, HR.out.2.2.2.2.2.1, HR.out.2.2.2.2.1, HR.out.2.2.2.2.2.2⟩
    case round =>
     obtain ⟨q, l, hqC, rfl, hlq, hown, hsi, hoi⟩ := hrel
     have hzi := hoi.size
     have hSr : SB < wo.heap.size := by omega
     by_cases hqq : (q : Int) < (C : Int)
     ·have hd2 : decide (q < C) = true := decide_eq_true (by omega)
      obtain ⟨oa, oc, rfl, _, _⟩ := own_form hown
      have hL := lit_V1 wr 2 [0, 1, 1] (by simp)
      have hbi : Below wr.heap.size wr (wr.alloc (.cells #[.int .i64 0, .int .i64 1, .int .i64 1] 2)) := (Below.refl _ _).alloc (Nat.le_refl _) _
      obtain ⟨wa, hwa⟩ : ∃ wa, wa = wr.alloc (.cells #[.int .i64 0, .int .i64 1, .int .i64 1] 2) := ⟨_, rfl⟩
      have hL : V1 (fun b => b = wr.heap.size) wa (.slice (some ⟨wr.heap.size, 0, none⟩) 3 3) [0, 1, 1] := by rw [hwa]; exact hL
      rw [← hwa] at hbi
      have hsa := hsi.below hbi
      have hoa := hoi.then_below hbi
      have howna := own_keep hown hbi
      have hza := hbi.size
      have HI := Lib.hid (And.intro hL (And.intro hsa (And.intro hoa (And.intro howna (And.intro hwa hlq))))); clear hL hsa hoa howna hwa hlq hown hsi hoi hbi
      go_wp2_with fail
      rw [← HI.out.2.2.2.2.1]
      refine (l01Pick_any B0 SB _ [0, 1, 1] wa HI.out.2.1 HI.out.1 (fun b hb => by omega) (by simp)).mono ?_
      rintro e' wb ⟨y, rfl, hy, hsb, hob⟩
      have hownb := own_only HI.out.2.2.2.1 hob hSr
      have hzb := hob.size
      have hob2 := HI.out.2.2.1.trans hob
      have hl9 : l.length ≤ 1000 := by have := HI.out.2.2.2.2.2; omega
      have HB := Lib.hid (And.intro hsb hob2); clear hsb hob hob2
      go_wp2_with (at_builtin; refine wp_app1 _ rfl _ _ 57 rfl wo.heap.size 2 (.int .i64 0) 8 Tryz.underlying57 inf_int rfl _ _ _ rfl hownb (.int .i64 y) _ rfl rfl (by omega) (by omega) (by omega) ?_; intro v1 w1 hown1 hgrow1 hblk1 hB1)
      have hown4 := own_ints (v := .slice oa l.length oc) hown1
      have hg1 : Chg (fun i => wo.heap.size ≤ i) wb w1 := (Chg.refl _ _).grown hgrow1 (fun g hg => .inl (hownb.lt g hg).1)
      have hsr1 := HB.out.1.keep hg1 (fun b hb => ⟨by have := HB.out.1.1; omega, by omega⟩)
      have hoW1 : Only SB wo w1 := Chg.trans HB.out.2 (G := fun i => wo.heap.size ≤ i) hg1 (fun i hi => .inr hi)
      have H4 := Lib.hid (And.intro hsr1 (And.intro hoW1 hown4)); clear hsr1 hoW1 hown4 hg1 hgrow1 hblk1 hB1 hown1 hownb
      go_roundw
      case rel => exact ⟨q + 1, l ++ [y], by omega, by go_num, by have := HI.out.2.2.2.2.2; simp; omega, H4.out.2.2, H4.out.1, H4.out.2.1⟩
      case measure => simp [intOf]; omega
     ·have hd2 : decide (q < C) = false := decide_eq_false (by omega)
      have hqC2 : 1 ≤ l.length ∧ l.length ≤ 10 := by omega
      obtain ⟨oa, oc, rfl, _, _⟩ := own_form hown
      obtain ⟨rb, hrb, hrbn⟩ := own_F1 hown
      obtain ⟨vs, hvs⟩ := HR.out.2.2.1.own
      obtain ⟨ta, tc, rfl, _, _⟩ := HR.out.2.2.1.form
      have hvs2 := own_only hvs hoi (by omega)
      have hTl : T.length ≤ 1000 := by have := HR.out.1; omega
      have HI := Lib.hid (And.intro hsi (And.intro hoi (And.intro hrb (And.intro hrbn (And.intro hvs hqC2))))); clear hsi hoi hrb hrbn hvs hqC2 hlq hown
      go_wp2_with (at_builtin; refine wp_app1 _ rfl _ _ 33 rfl w5.heap.size 57 (.slice none 0 0) 24 Tryz.underlying33 inf_ints rfl _ _ _ rfl hvs2 (.slice oa l.length oc) _ rfl rfl (by omega) (by omega) (by omega) ?_; intro v1 w1 hown1 hgrow1 hblk1 hB1)
      have hP := Out2.pushO HR.out.2.2.1 hzr hzi (fun b h1 h2 => HI.out.2.1.block b h2 (fun e => by omega)) HI.out.2.2.1 HI.out.2.2.2.1 HI.out.2.2.2.2.1 hown1 hgrow1 hblk1
      have hg1 : Chg (fun i => w5.heap.size ≤ i) wr w1 := (Chg.refl _ _).grown hgrow1 (fun g hg => .inl (hvs2.lt g hg).1)
      have hsr1 := HI.out.1.keep hg1 (fun b hb => ⟨by have := HI.out.1.1; omega, by omega⟩)
      have hoW1 : Only SB w5 w1 := Chg.trans (HR.out.2.2.2.1.trans HI.out.2.1) (G := fun i => w5.heap.size ≤ i) hg1 (fun i hi => .inr hi)
      have H4 := Lib.hid (And.intro hsr1 (And.intro hoW1 hP)); clear hsr1 hoW1 hP hg1 hgrow1 hblk1 hB1 hown1 hvs2
      go_roundw
      case rel => exact ⟨k + 1, T ++ [l], by omega, by go_num, by have := HR.out.1; simp; omega, HR.out.2.1.snoc HI.out.2.2.2.2.2, H4.out.2.2, H4.out.1, H4.out.2.1⟩
      case measure => simp [intOf]; omega
   ·have hd : decide (k < R) = false := decide_eq_false (by omega)
    obtain ⟨ta, tc, rfl, _, _⟩ := hO.form
    have hkR2 : 1 ≤ T.length ∧ T.length ≤ 4 := by omega
    have HR := Lib.hid (And.intro hkR2 (And.intro hsh (And.intro (hO.baseO (show W.heap.size ≤ w5.heap.size by omega)) (And.intro hsr (H5.out.2.1.trans hor))))); clear hkR2 hTk hsh hO hsr hor
    go_wp2_with fail
    go_ret
    exact ⟨_, rfl, ⟨T, HR.out.2.2.1, HR.out.1, HR.out.2.1⟩, HR.out.2.2.2.1, HR.out.2.2.2.2⟩
theorem F2.ne {B : Nat} {w : World} {ob off n c b o2 m rc i : Nat} {ls : List (List Int)} (h : F2 B w (.slice (some ⟨ob, off, none⟩) n c) ls) (hi : i < ls.length) (hne : getl ls i ≠ []) (hc : w.cell? ⟨ob, off + i, none⟩ = some (.slice (some ⟨b, o2, none⟩) m rc)) : b ≠ ob := by
 obtain ⟨ob', bk, ⟨a', c', e, h1, h2, h3, h4⟩, h5, h6⟩ := h
 simp only [Value.slice.injEq] at e
 obtain ⟨rfl, rfl, rfl⟩ := e
 obtain ⟨off', cs, e, ha, hh, hrows⟩ := h3 (by intro e; subst e; simp at hi)
 simp only [Option.some.injEq, Addr.mk.injEq, and_true] at ha
 obtain ⟨rfl, rfl⟩ := ha
 obtain ⟨rv, hr1, a1, c1, rfl, g1, g2, g3⟩ := hrows i hi
 rw [cell_of_block hh, hr1] at hc
 obtain ⟨o, cs2, e2, rfl, _⟩ := g3 hne
 simp only [Option.some.injEq, Value.slice.injEq, Addr.mk.injEq, and_true] at hc
 obtain ⟨⟨rfl, _⟩, _⟩ := hc
 exact (h4 i hi hne).1
def lenV : Value → Nat
 | .slice _ n _ => n
 | _ => 0
theorem OV.row {B : Nat} {w : World} {v : Value} {ls : List (List Int)} {vs : List Value} {S : Nat → Prop} {k : Nat} (h1 : w.ownsRow B 57 1 v ls.length vs) (h2 : RowVs S w vs ls) (hk : k < ls.length) :
  ∃ g cap a c, v = .slice (some ⟨g, 0, none⟩) ls.length cap ∧ w.cell? ⟨g, k, none⟩ = some (.slice a (getl ls k).length c) ∧ V1 S w (.slice a (getl ls k).length c) (getl ls k) := by
 obtain ⟨hl, h⟩ := h1
 obtain ⟨ev, h3, h4⟩ := h2.2 k hk
 obtain ⟨a, c, rfl, _⟩ := h4.form
 rcases h with ⟨rfl, h0⟩ | ⟨g, cap, cur, rfl, hb, hh, hc, hm, hs, ht⟩
 ·omega
 ·refine ⟨g, cap, a, c, rfl, ?_, h4⟩
  have h5 : (cur.toList.take (ls.length * 1))[k]? = vs[k]? := by rw [ht]
  rw [List.getElem?_take, if_pos (by omega), h3] at h5
  rw [cell_of_block hh, ← Array.getElem?_toList, h5]
theorem OV.push2 {B : Nat} {w w1 : World} {v v1 rv : Value} {ls : List (List Int)} {l : List Int} {vs : List Value}
  (h1 : w.ownsRow B 57 1 v ls.length vs) (h2 : RowVs (fun b => B ≤ b ∧ v.ownBlock ≠ some b) w vs ls) (hx : V1 (fun b => B ≤ b ∧ v.ownBlock ≠ some b) w rv l)
  (hown : w1.ownsRow B 57 1 v1 (ls.length + 1) (vs ++ [rv])) (hg : w.grownBy w1 v.ownBlock) (hblk : v1.ownBlock = v.ownBlock ∨ ∃ g, v1.ownBlock = some g ∧ w.heap.size ≤ g) : OV B w1 v1 (ls ++ [l]) := by
 have hne1 : ∀ c, c < w.heap.size → v.ownBlock ≠ some c → v1.ownBlock ≠ some c := fun c hc hn e => by
  rcases hblk with e1 | ⟨g, e1, hge⟩
  ·exact hn (e1.symm.trans e)
  ·rw [e] at e1; cases e1; omega
 have hkeep : Keep (fun b => B ≤ b ∧ v.ownBlock ≠ some b) w w1 := fun b hb hlt => hg.block b hlt (fun e => hb.2 e.symm)
 refine ⟨vs ++ [rv], by simpa using hown, RowVs.snoc ⟨h2.1, fun k hk' => ?_⟩ (hx.mono (fun b hb hlt => ⟨hb.1, hne1 b hlt hb.2⟩) hkeep)⟩
 obtain ⟨ev, h3, h4⟩ := h2.2 k hk'
 exact ⟨ev, h3, h4.mono (fun b hb hlt => ⟨hb.1, hne1 b hlt hb.2⟩) hkeep⟩
theorem Out2.ov {B : Nat} {w : World} {v : Value} {ls : List (List Int)} (h : Out2 B w v ls) : OV B w v ls := by
 obtain ⟨vs, bk, h1, h2, h3⟩ := h
 refine ⟨vs, h1, by have := h1.1; omega, fun k hk => ?_⟩
 obtain ⟨rv, h4, h5⟩ := h2 k hk
 exact ⟨rv, h4, h5.v1 (fun hn => ⟨(h3 k hk hn).1, (h3 k hk hn).2.1⟩)⟩
set_option maxRecDepth 100000 in
set_option maxHeartbeats 4000000 in
theorem l11Draw_any (B0 SB : Nat) (W : World) (h : Src B0 SB W) :
  Calls Tryz.prog 94 #[.pointer (some ⟨SB, 0, none⟩)] W fun e w' => ∃ v T, e = .returned v ∧ (V2 (fun b => W.heap.size ≤ b) w' v T ∧ T.length ≤ 12) ∧ Src B0 SB w' ∧ Only SB W w' := by
 have hSl := h.lt
 have hB0 : B0 ≤ SB := h.1
 have HL := Lib.hid h; clear h
 go_enter Tryz.func94, Tryz.ntmps94
 go_wp2_with fail
 refine (l11Valid_any B0 SB _ HL.out).mono ?_
 rintro e' w2 ⟨tv, T, rfl, ⟨hO, hTl, hF⟩, hs2, ho2⟩
 obtain ⟨ta, tc, rfl, _, _⟩ := hO.form
 have hz2 := ho2.size
 have H2 := Lib.hid (And.intro hs2 (And.intro ho2 (And.intro hO hF))); clear hs2 ho2 hO hF
 go_wp2_with fail
 refine (l01Next_any B0 SB 30 _ H2.out.1).mono ?_
 rintro e' w3 ⟨x, rfl, ⟨hx0, hx1⟩, hs3, ho3⟩
 have hz3 := ho3.size
 have H3 := Lib.hid (And.intro hs3 (And.intro (H2.out.2.1.trans ho3) (H2.out.2.2.1.only ho3 (by omega)))); clear hs3 ho3
 by_cases hx : x = 0
 ·subst hx
  obtain ⟨ob, off, b, o2, rc, u, rfl, hc1, hb5, hc2, hfz, hput⟩ := H3.out.2.2.f2.put (i := 0) (k := 0) (by omega) (by have := H2.out.2.2.2 0 (by omega); omega)
  simp only [Nat.add_zero] at hc1 hc2 hput hfz
  have hrl := H2.out.2.2.2 0 (by omega)
  obtain ⟨rl, hrle⟩ : ∃ rl, (getl T 0).length = rl := ⟨_, rfl⟩
  rw [hrle] at hc1 hrl
  have hrl1 : ¬ rl ≤ 0 := by omega
  have hTl1 : ¬ T.length ≤ 0 := by omega
  have hc1d : w3.drew.cell? ⟨ob, off, none⟩ = some (.slice (some ⟨b, o2, none⟩) rl rc) := hc1
  have hobl := lt_of_cell hc1
  have hobB : W.heap.size ≤ ob := by obtain ⟨vs, hvs⟩ := H3.out.2.2.own; exact (hvs.lt ob rfl).1
  have HP := Lib.hid (And.intro hput hfz); clear hput hfz hrle
  go_wp2_with fail
  refine wp_region_noPanic ?_
  refine wp_region_held_drew (S := fun w' => w'.cell? ⟨ob, off, none⟩ = some (.slice (some ⟨b, o2, none⟩) rl rc)) (by kernel_rfl) hc1d (fun hHeld => ?_)
  (refine wpAnyH_take (i := 0) (v := .slice (some ⟨ob, off, none⟩) T.length tc) rfl (by kernel_rfl) (by kernel_rfl) (by kernel_rfl) (fun _ _ _ h => h) (Or.inl ⟨by kernel_rfl, fun w hSw => by (try dsimp only at hSw); go_split_ands; go_simp⟩) (by assumption) ?_; simp only [Act.put, List.setIfInBounds_toArray, List.set_cons_zero, List.set_cons_succ])
  (refine wpAnyH_take (i := 1) (v := .pointer (some ⟨ob, off, none⟩)) rfl (by kernel_rfl) (by kernel_rfl) (by kernel_rfl) (fun _ _ _ h => h) (Or.inl ⟨by kernel_rfl, fun w hSw => by (try dsimp only at hSw); go_split_ands; go_simp⟩) (by assumption) ?_; simp only [Act.put, List.setIfInBounds_toArray, List.set_cons_zero, List.set_cons_succ])
  (refine wpAnyH_take (i := 2) (v := .slice (some ⟨b, o2, none⟩) rl rc) rfl (by kernel_rfl) (by kernel_rfl) (by kernel_rfl) (fun _ _ _ h => h) (Or.inl ⟨by kernel_rfl, fun w hSw => by (try dsimp only at hSw); go_split_ands; go_simp⟩) (by assumption) ?_; simp only [Act.put, List.setIfInBounds_toArray, List.set_cons_zero, List.set_cons_succ])
  (refine wpAnyH_take (i := 3) (v := .pointer (some ⟨SB, 0, none⟩)) rfl (by kernel_rfl) (by kernel_rfl) (by kernel_rfl) (fun _ _ _ h => h) (Or.inl ⟨by kernel_rfl, fun w hSw => by (try dsimp only at hSw); go_split_ands; go_simp⟩) (by assumption) ?_; simp only [Act.put, List.setIfInBounds_toArray, List.set_cons_zero, List.set_cons_succ])
  have hL := lit_V1 w3 2 [-1, 2] (by simp)
  have hbi : Below w3.heap.size w3 (w3.alloc (.cells #[.int .i64 (-1), .int .i64 2] 2)).drew := ((Below.refl w3.heap.size w3).alloc (Nat.le_refl _) _).drew
  obtain ⟨wa, hwa⟩ : ∃ wa, wa = (w3.alloc (.cells #[.int .i64 (-1), .int .i64 2] 2)).drew := ⟨_, rfl⟩
  have hL : V1 (fun b => b = w3.heap.size) wa (.slice (some ⟨w3.heap.size, 0, none⟩) 2 2) [-1, 2] := by rw [hwa]; exact hL
  rw [← hwa] at hbi
  have hca : wa.cell? ⟨ob, off, none⟩ = some (.slice (some ⟨b, o2, none⟩) rl rc) := by rw [(bcell hbi).1 _ _ hobl]; exact hc1
  have HA := Lib.hid (And.intro hL (And.intro hbi (And.intro (H3.out.1.below hbi) (And.intro (H3.out.2.1.then_below hbi) (And.intro (H3.out.2.2.keep hbi) hwa))))); clear hL hbi hwa
  refine wpAnyH_ready (rs := [4]) (by kernel_rfl) (by simp) (AllReadyH.cons rfl (fun K hK => ?_) AllReadyH.nil)
  go_simp
  rw [← HA.out.2.2.2.2.2]
  (refine hK.out _ _ hca (fun hHeld => ?_); clear hK K; (try simp only [Act.put, List.setIfInBounds_toArray, List.set_cons_zero, List.set_cons_succ]))
  have hza : w3.heap.size ≤ wa.heap.size := HA.out.2.1.size
  refine wpAnyH_ready (rs := [5]) (by kernel_rfl) (by simp) (AllReadyH.cons rfl (fun K hK => ?_) AllReadyH.nil)
  go_simp
  go_at_call 40
  refine (l01Pick_any B0 SB _ [-1, 2] wa HA.out.2.2.1 HA.out.1 (fun b hb => by omega) (by simp)).mono ?_
  rintro e' wb ⟨y, rfl, hy, hsb, hob⟩
  have hOb := HA.out.2.2.2.2.1.only hob (by omega)
  have hcb : wb.cell? ⟨ob, off, none⟩ = some (.slice (some ⟨b, o2, none⟩) rl rc) := by
   exact cell_keep hca (hob.block ob (by omega) (fun e => by omega))
  obtain ⟨ob', off', b', o2', rc', u', e1, hc1', hb5', hc2', hfz', hput'⟩ := hOb.f2.put (i := 0) (k := 0) (by omega) (by have := H2.out.2.2.2 0 (by omega); omega)
  simp only [Option.some.injEq, Addr.mk.injEq, and_true] at e1
  obtain ⟨rfl, rfl⟩ := e1
  simp only [Nat.add_zero] at hc1' hc2' hfz' hput'
  have hbo : b' ≠ ob := hOb.f2.ne (i := 0) (by omega) (by have := H2.out.2.2.2 0 (by omega); intro e; rw [e] at this; simp at this) (by simpa using hc1')
  rw [hcb] at hc1'
  simp only [Option.some.injEq, Value.slice.injEq, Addr.mk.injEq, and_true] at hc1'
  obtain ⟨⟨rfl, rfl⟩, hrl2, rfl⟩ := hc1'
  obtain ⟨wc, hwc⟩ : ∃ wc, wc = wb.setCell ⟨b, o2, none⟩ (.int .i64 y) := ⟨_, rfl⟩
  have hfin := hput' y
  rw [← hwc] at hfin
  have hsc : Src B0 SB wc := hsb.only (b := b) (off := o2) (by omega) (by omega) _ hwc
  have hoc : Only SB W wc := by rw [hwc]; exact (HA.out.2.2.2.1.trans hob).setNew hb5' _
  have HC := Lib.hid (And.intro hfin (And.intro hsc (And.intro hoc hwc))); clear hfin hsc hoc hwc hput' hsb hob hOb hrl2
  dsimp only
  (refine hK.out _ _ hcb (fun hHeld => ?_); clear hK K; (try simp only [Act.put, List.setIfInBounds_toArray, List.set_cons_zero, List.set_cons_succ]))
  have hrl3 : ¬ rl ≤ 0 := by omega
  have hrl4 : 0 < rl := by omega
  (refine wpAnyH_ready (rs := [6]) (by kernel_rfl) (by simp) (AllReadyH.cons rfl (fun K hK => ?_) AllReadyH.nil); go_simp)
  (refine hK.out _ _ hcb (fun hHeld => ?_); clear hK K; (try simp only [Act.put, List.setIfInBounds_toArray, List.set_cons_zero, List.set_cons_succ]))
  (refine wpAnyH_ready (rs := [7]) (by kernel_rfl) (by simp) (AllReadyH.cons rfl (fun K hK => ?_) AllReadyH.nil); go_simp)
  rw [← HC.out.2.2.2]
  have hcc : wc.cell? ⟨ob, off, none⟩ = some (.slice (some ⟨b, o2, none⟩) rl rc) := by rw [HC.out.2.2.2]; exact cell_keep hcb (heap_setCell_other _ (fun e => hbo e.symm))
  (refine hK.out _ _ hcc (fun hHeld => ?_); clear hK K; (try simp only [Act.put, List.setIfInBounds_toArray, List.set_cons_zero, List.set_cons_succ]))
  refine wpAnyH_done (by kernel_rfl) (NoPanic.normal ?_) _
  go_wp2_with fail
  go_ret
  exact ⟨_, setT T 0 0 y, rfl, ⟨HC.out.1.v2, by rw [setT_len]; omega⟩, HC.out.2.1, HC.out.2.2.1⟩
 ·have hx0d : (x == 0) = false := by simp [hx]
  by_cases hx1' : x = 1
  ·subst hx1'
   obtain ⟨wa, hwa⟩ : ∃ wa, wa = w3.alloc (.cells #[.int .i64 1] 2) := ⟨_, rfl⟩
   have hba : Below w3.heap.size w3 wa := by rw [hwa]; exact (Below.refl _ _).alloc (Nat.le_refl _) _
   have hx1r : X1 wa (.slice (some ⟨w3.heap.size, 0, none⟩) 1 1) [1] w3.heap.size := by
    rw [hwa]
    exact ⟨_, 1, rfl, Nat.le_refl _, by unfold maxLen; omega, fun _ => ⟨0, _, _, rfl, heap_alloc_self _ _, fun k hk => by
     have e : k = 0 := by simpa using hk
     subst e; rfl⟩⟩
   obtain ⟨vs, hvs⟩ := H3.out.2.2.own
   have hvsa := own_keep hvs hba
   have hza := hba.size
   have hTl9 : T.length ≤ 1000 := by omega
   have HA := Lib.hid (And.intro hba (And.intro hx1r (And.intro hvs hwa))); clear hba hx1r hvs hwa
   have hvsl : (w3.alloc (.cells #[.int .i64 1] 2)).ownsRow W.heap.size 57 1 (.slice ta T.length tc) T.length vs := by rw [← HA.out.2.2.2]; exact hvsa
   go_wp2_with (at_builtin; refine wp_app1h (w3.alloc (.cells #[.int .i64 1] 2)) (w3.heap.size + 1) (by simp) rfl _ _ 33 rfl W.heap.size 57 (.slice none 0 0) 24 Tryz.underlying33 inf_ints rfl (.slice ta T.length tc) T.length vs rfl hvsl (.slice (some ⟨w3.heap.size, 0, none⟩) 1 1) _ rfl rfl (by omega) (by omega) (by first | (simp; done) | (simp; omega)) ?_; intro v1 w1 hown1 hgrow1 hblk1 hB1)
   have hwe := HA.out.2.2.2
   rw [← hwe] at hgrow1 hblk1
   have hP := Out2.pushO H3.out.2.2 (show W.heap.size ≤ w3.heap.size by omega) hza (fun b h1 h2 => HA.out.1.block b h2) HA.out.2.1 (fun _ => Nat.le_refl _) HA.out.2.2.1 hown1 hgrow1 hblk1
   have hg1 : Chg (fun i => W.heap.size ≤ i) wa w1 := (Chg.refl _ _).grown hgrow1 (fun g hg => .inl (hvsa.lt g hg).1)
   have hs1 := (H3.out.1.below HA.out.1).keep hg1 (fun b hb => ⟨by omega, by omega⟩)
   have hoW1 : Only SB W w1 := Chg.trans (H3.out.2.1.then_below HA.out.1) (G := fun i => W.heap.size ≤ i) hg1 (fun i hi => .inr hi)
   have H4 := Lib.hid (And.intro hP.f2.v2 (And.intro hs1 hoW1)); clear hP hg1 hs1 hoW1 hgrow1 hblk1 hB1 hown1 hvsa
   go_wp2_with fail
   go_ret
   exact ⟨_, T ++ [[1]], rfl, ⟨H4.out.1, by simp; omega⟩, H4.out.2.1, H4.out.2.2⟩
  ·have hx1d : (x == 1) = false := by simp [hx1']
   by_cases hx2 : x = 2
   ·subst hx2
    clear hx hx1'
    have HO := Lib.hid H3.out.2.2.ov
    go_wp2_with fail
    go_loopw [3] (fun tv wr => ∃ T' : List (List Int), (1 ≤ T'.length ∧ T'.length ≤ 11) ∧ lenV tv = T'.length ∧ OV W.heap.size wr tv T' ∧ Src B0 SB wr ∧ Only SB W wr) (fun tv _ => 12 - lenV tv)
    case atStart => exact ⟨T, by omega, rfl, HO.out, H3.out.1, H3.out.2.1⟩
    case round =>
     obtain ⟨T', hT', hlv, hO, hsr, hor⟩ := hrel
     clear hlv
     have hzr := hor.size
     obtain ⟨vs, hvs, hrv⟩ := hO
     obtain ⟨g, cap, a, c, rfl, hcc, hV⟩ := OV.row hvs hrv (k := 0) (by omega)
     obtain ⟨wo, rfl⟩ : ∃ x, x = wr := ⟨_, rfl⟩
     have hgl := lt_of_cell hcc
     have hgB : W.heap.size ≤ g := (hvs.lt g rfl).1
     have HR := Lib.hid (And.intro hvs (And.intro hrv (And.intro hV (And.intro hsr hor)))); clear hvs hrv hV hsr hor
     go_wp2_with fail
     refine (l01Next_any B0 SB 2 _ HR.out.2.2.2.1).mono ?_
     rintro e' w5 ⟨y, rfl, ⟨hy0, hy1⟩, hs5, ho5⟩
     have hz5 := ho5.size
     have hkS : Keep (fun b => W.heap.size ≤ b ∧ (Value.slice (some ⟨g, 0, none⟩) T'.length cap).ownBlock ≠ some b) wo w5 := ho5.keep fun b hb e => by have := hb.1; omega
     have hvs5 := own_only HR.out.1 ho5 (by omega)
     have hcc5 : w5.cell? ⟨g, 0, none⟩ = some (.slice a (getl T' 0).length c) := cell_keep hcc (ho5.block g hgl (fun e => by omega))
     have H5 := Lib.hid (And.intro hvs5 (And.intro (HR.out.2.1.keep hkS) (And.intro (HR.out.2.2.1.mono (fun b h _ => h) hkS) (And.intro hs5 (HR.out.2.2.2.2.trans ho5))))); clear hs5 ho5 hkS hcc
     have hTn : ¬ T'.length ≤ 0 := by omega
     by_cases hlt : (T'.length : Int) < 10 + y
     ·have hltd : decide ((T'.length : Int) < 10 + y) = true := decide_eq_true hlt
      go_wp2_with (at_builtin; refine wp_app1 _ rfl _ _ 33 rfl W.heap.size 57 (.slice none 0 0) 24 Tryz.underlying33 inf_ints rfl _ _ _ rfl hvs5 (.slice a (getl T' 0).length c) _ rfl rfl (by omega) (by omega) (by omega) ?_; intro v1 w1 hown1 hgrow1 hblk1 hB1)
      have hP := OV.push2 H5.out.1 H5.out.2.1 H5.out.2.2.1 hown1 hgrow1 hblk1
      have hg1 : Chg (fun i => W.heap.size ≤ i) w5 w1 := (Chg.refl _ _).grown hgrow1 (fun g hg => .inl (hvs5.lt g hg).1)
      have hs1 := H5.out.2.2.2.1.keep hg1 (fun b hb => ⟨by omega, by omega⟩)
      have hoW1 : Only SB W w1 := Chg.trans H5.out.2.2.2.2 (G := fun i => W.heap.size ≤ i) hg1 (fun i hi => .inr hi)
      obtain ⟨na, nc, rfl, _, _⟩ := own_form hown1
      have H6 := Lib.hid (And.intro hP (And.intro hs1 hoW1)); clear hP hg1 hs1 hoW1 hgrow1 hblk1 hB1 hown1 hvs5
      go_roundw
      case rel => exact ⟨T' ++ [getl T' 0], by simp; omega, by simp [lenV], H6.out.1, H6.out.2.1, H6.out.2.2⟩
      case measure => simp [lenV]; omega
     ·have hltd : decide ((T'.length : Int) < 10 + y) = false := decide_eq_false hlt
      have hOf : OV W.heap.size w5 (.slice (some ⟨g, 0, none⟩) T'.length cap) T' := ⟨vs, H5.out.1, H5.out.2.1⟩
      have HF := Lib.hid hOf.v2; clear hOf hvs5 hlt
      go_wp2_with fail
      go_ret
      exact ⟨_, T', rfl, ⟨HF.out, by omega⟩, H5.out.2.2.2.1, H5.out.2.2.2.2⟩
   ·have hx2d : (x == 2) = false := by simp [hx2]
    by_cases hx3 : x = 3
    ·subst hx3
     clear hx hx1' hx2
     go_wp2_with fail
     refine (l01Next_any B0 SB 2 _ H3.out.1).mono ?_
     rintro e' w4 ⟨y, rfl, ⟨hy0, hy1⟩, hs4, ho4⟩
     have hz4 := ho4.size
     have H4 := Lib.hid (And.intro hs4 (H3.out.2.1.trans ho4)); clear hs4 ho4
     have hy : y = 0 ∨ y = 1 := by omega
     clear hy0 hy1
     rcases hy with rfl | rfl
     ·
      go_wp2_with (at_make; refine wp_mk _ rfl _ _ 57 rfl 2 (.int .i64 0) 1 8 Tryz.underlying57 inf_int 12 rfl rfl (by omega) (by omega) ?_; intro w5 cs0 hh0 hs0 ht0 hB0 hsz0; refine Hid.out ?_)
      refine Lib.hid ?_
      have hx1r : X1 w5 (.slice (some ⟨w4.heap.size, 0, none⟩) 12 12) (List.replicate 12 0) w4.heap.size := ⟨_, 12, rfl, Nat.le_refl _, by unfold maxLen; omega, fun _ => ⟨0, cs0, _, rfl, hh0, fun k hk => by
       have e2 : (madeCells (Value.int .i64 0).cells (12 * 1)).toList = (List.replicate 12 (0 : Int)).map (Value.int .i64) := by kernel_rfl
       rw [Nat.zero_add, ← Array.getElem?_toList, ht0, e2, List.getElem?_map, List.getElem?_eq_getElem hk, geti_eq hk]; rfl⟩⟩
      obtain ⟨wf, hwf⟩ : ∃ wf, wf = w5.alloc (.cells #[.slice (some ⟨w4.heap.size, 0, none⟩) 12 12] 57) := ⟨_, rfl⟩
      have hbf : Below w5.heap.size w5 wf := by rw [hwf]; exact (Below.refl _ _).alloc (Nat.le_refl _) _
      have hcf : wf.heap[w5.heap.size]? = some (.cells #[.slice (some ⟨w4.heap.size, 0, none⟩) 12 12] 57 (0, 0)) := by rw [hwf]; exact heap_alloc_self _ _
      have hVf : V2 (fun b => W.heap.size ≤ b) wf (.slice (some ⟨w5.heap.size, 0, none⟩) 1 1) [List.replicate 12 0] := ⟨_, 1, rfl, Nat.le_refl _, by unfold maxLen; omega, fun k hk => by
       have e : k = 0 := by simpa using hk
       subst e
       exact ⟨w5.heap.size, 0, _, rfl, by omega, by rw [cell_of_block hcf]; rfl, (hx1r.v1 (S := fun b => W.heap.size ≤ b) (fun _ => by omega)).below hbf⟩⟩
      have H6 := Lib.hid (And.intro hVf (And.intro ((H4.out.1.below hB0).below hbf) (And.intro ((H4.out.2.then_below hB0).then_below hbf) hwf))); clear hVf hbf hcf hwf hx1r hh0 hs0 ht0 hB0
      go_wp2_with fail
      rw [← H6.out.2.2.2]
      go_ret
      exact ⟨_, [List.replicate 12 0], rfl, ⟨H6.out.1, by simp⟩, H6.out.2.1, H6.out.2.2.1⟩
     ·
      go_wp2_with (at_make; refine wp_mk _ rfl _ _ 57 rfl 2 (.int .i64 0) 1 8 Tryz.underlying57 inf_int 13 rfl rfl (by omega) (by omega) ?_; intro w5 cs0 hh0 hs0 ht0 hB0 hsz0; refine Hid.out ?_)
      refine Lib.hid ?_
      have hx1r : X1 w5 (.slice (some ⟨w4.heap.size, 0, none⟩) 13 13) (List.replicate 13 0) w4.heap.size := ⟨_, 13, rfl, Nat.le_refl _, by unfold maxLen; omega, fun _ => ⟨0, cs0, _, rfl, hh0, fun k hk => by
       have e2 : (madeCells (Value.int .i64 0).cells (13 * 1)).toList = (List.replicate 13 (0 : Int)).map (Value.int .i64) := by kernel_rfl
       rw [Nat.zero_add, ← Array.getElem?_toList, ht0, e2, List.getElem?_map, List.getElem?_eq_getElem hk, geti_eq hk]; rfl⟩⟩
      obtain ⟨wf, hwf⟩ : ∃ wf, wf = w5.alloc (.cells #[.slice (some ⟨w4.heap.size, 0, none⟩) 13 13] 57) := ⟨_, rfl⟩
      have hbf : Below w5.heap.size w5 wf := by rw [hwf]; exact (Below.refl _ _).alloc (Nat.le_refl _) _
      have hcf : wf.heap[w5.heap.size]? = some (.cells #[.slice (some ⟨w4.heap.size, 0, none⟩) 13 13] 57 (0, 0)) := by rw [hwf]; exact heap_alloc_self _ _
      have hVf : V2 (fun b => W.heap.size ≤ b) wf (.slice (some ⟨w5.heap.size, 0, none⟩) 1 1) [List.replicate 13 0] := ⟨_, 1, rfl, Nat.le_refl _, by unfold maxLen; omega, fun k hk => by
       have e : k = 0 := by simpa using hk
       subst e
       exact ⟨w5.heap.size, 0, _, rfl, by omega, by rw [cell_of_block hcf]; rfl, (hx1r.v1 (S := fun b => W.heap.size ≤ b) (fun _ => by omega)).below hbf⟩⟩
      have H6 := Lib.hid (And.intro hVf (And.intro ((H4.out.1.below hB0).below hbf) (And.intro ((H4.out.2.then_below hB0).then_below hbf) hwf))); clear hVf hbf hcf hwf hx1r hh0 hs0 ht0 hB0
      go_wp2_with fail
      rw [← H6.out.2.2.2]
      go_ret
      exact ⟨_, [List.replicate 13 0], rfl, ⟨H6.out.1, by simp⟩, H6.out.2.1, H6.out.2.2.1⟩
    ·have hx3d : (x == 3) = false := by simp [hx3]
     clear hx hx1' hx2 hx3
     by_cases hx4 : x = 4
     ·subst hx4
      go_wp2_with fail
      go_ret
      exact ⟨_, [], rfl, ⟨⟨none, 0, rfl, Nat.le_refl _, Nat.zero_le _, fun k hk => by simp at hk⟩, by simp⟩, H3.out.1, H3.out.2.1⟩
     ·have hx4d : (x == 4) = false := by simp [hx4]
      clear hx4
      go_wp2_with fail
      go_ret
      exact ⟨_, T, rfl, ⟨H3.out.2.2.f2.v2, by omega⟩, H3.out.1, H3.out.2.1⟩
end Go.Proofs.YtbekpololmahoaaGreatDoor
