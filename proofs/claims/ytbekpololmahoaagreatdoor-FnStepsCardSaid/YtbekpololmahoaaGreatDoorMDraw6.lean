/- The reference's draws of cuts. No conditions. -/
import Derived.Test.YtbekpololmahoaaGreatDoorMDraw3
import Derived.Test.YtbekpololmahoaaGreatDoorMEach5
namespace Go.Proofs.YtbekpololmahoaaGreatDoor
open Go.RowKit
set_option linter.unusedVariables false
set_option linter.unusedSimpArgs false
/-- A list in memory of its own whose rows lie elsewhere, in new memory. -/
def OV (B : Nat) (w : World) (v : Value) (ls : List (List Int)) : Prop :=
 ∃ vs, w.ownsRow B 57 1 v ls.length vs ∧ RowVs (fun b => B ≤ b ∧ v.ownBlock ≠ some b) w vs ls
theorem OV.nil {B : Nat} {w : World} {v : Value} (h : w.ownsRow B 57 1 v 0 []) : OV B w v [] := ⟨[], h, RowVs.nil⟩
theorem OV.only {B SB : Nat} {w w' : World} {v : Value} {ls : List (List Int)} (h : OV B w v ls) (hc : Only SB w w') (hs : SB < B) : OV B w' v ls := by
 obtain ⟨vs, h1, h2⟩ := h
 exact ⟨vs, own_only h1 hc hs, h2.keep (hc.keep fun b hb e => by have := hb.1; omega)⟩
theorem OV.below {B : Nat} {w w' : World} {v : Value} {ls : List (List Int)} (h : OV B w v ls) (hb : Below w.heap.size w w') : OV B w' v ls := by
 obtain ⟨vs, h1, h2⟩ := h
 exact ⟨vs, own_keep h1 hb, h2.below hb⟩
theorem OV.base {B B' : Nat} {w : World} {v : Value} {ls : List (List Int)} (h : OV B w v ls) (hb : B' ≤ B) : OV B' w v ls := by
 obtain ⟨vs, h1, h2⟩ := h
 exact ⟨vs, own_base h1 hb, h2.1, fun k hk => by obtain ⟨ev, h3, h4⟩ := h2.2 k hk; exact ⟨ev, h3, h4.mono (fun b h _ => ⟨by have := h.1; omega, h.2⟩) (fun _ _ _ => rfl)⟩⟩
theorem OV.form {B : Nat} {w : World} {v : Value} {ls : List (List Int)} (h : OV B w v ls) : ∃ a c, v = .slice a ls.length c ∧ ls.length ≤ c ∧ c ≤ maxLen := by
 obtain ⟨vs, h1, h2⟩ := h; exact own_form h1
theorem OV.push {B : Nat} {w w2 w1 : World} {v v1 rv : Value} {ls : List (List Int)} {l : List Int} {vs : List Value}
  (h1 : w.ownsRow B 57 1 v ls.length vs) (h2 : RowVs (fun b => B ≤ b ∧ v.ownBlock ≠ some b) w vs ls) (hB : B ≤ w.heap.size) (hz : w.heap.size ≤ w2.heap.size) (hk : ∀ b, B ≤ b → b < w.heap.size → w2.heap[b]? = w.heap[b]?) (hx : V1 (fun b => w.heap.size ≤ b) w2 rv l)
  (hown : w1.ownsRow B 57 1 v1 (ls.length + 1) (vs ++ [rv])) (hg : w2.grownBy w1 v.ownBlock) (hblk : v1.ownBlock = v.ownBlock ∨ ∃ g, v1.ownBlock = some g ∧ w2.heap.size ≤ g) : OV B w1 v1 (ls ++ [l]) := by
 have hvl : ∀ g, v.ownBlock = some g → g < w.heap.size := fun g hgg => (h1.lt g hgg).2
 have hne1 : ∀ c, c < w2.heap.size → v.ownBlock ≠ some c → v1.ownBlock ≠ some c := fun c hc hn e => by
  rcases hblk with e1 | ⟨g, e1, hge⟩
  ·exact hn (e1.symm.trans e)
  ·rw [e] at e1; cases e1; omega
 refine ⟨vs ++ [rv], by simpa using hown, RowVs.snoc ⟨h2.1, fun k hk' => ?_⟩ ?_⟩
 ·obtain ⟨ev, h3, h4⟩ := h2.2 k hk'
  exact ⟨ev, h3, h4.mono (fun b hb hlt => ⟨hb.1, hne1 b (by omega) hb.2⟩) (fun b hb hlt => by rw [hg.block b (by omega) (fun e => hb.2 e.symm), hk b hb.1 hlt])⟩
 ·exact hx.mono (fun b hb hlt => ⟨by omega, hne1 b hlt (fun e => by have := hvl b e; omega)⟩) (fun b hb hlt => hg.block b hlt (fun e => by have := hvl b e.symm; omega))
theorem OV.v2 {B : Nat} {w : World} {v : Value} {ls : List (List Int)} (h : OV B w v ls) : V2 (fun b => B ≤ b) w v ls := by
 obtain ⟨vs, ⟨hl, h⟩, hr⟩ := h
 rcases h with ⟨rfl, h0⟩ | ⟨g, cap, cur, rfl, hb, hh, hc, hm, hs, ht⟩
 ·exact ⟨none, 0, by rw [h0], by omega, Nat.zero_le _, fun k hk => by omega⟩
 ·refine ⟨_, _, rfl, hc, hm, fun k hk => ?_⟩
  obtain ⟨ev, h1, h2⟩ := hr.2 k hk
  refine ⟨g, 0, ev, rfl, hb, ?_, h2.mono (fun b h _ => h.1) (fun _ _ _ => rfl)⟩
  have h3 : (cur.toList.take (ls.length * 1))[k]? = vs[k]? := by rw [ht]
  rw [List.getElem?_take, if_pos (by omega), h1] at h3
  rw [cell_of_block hh, Nat.zero_add, ← Array.getElem?_toList, h3]
theorem OV.put {B n c i : Nat} {w : World} {a : Option Addr} {rv : Value} {ls : List (List Int)} {l : List Int} (h : OV B w (.slice a n c) ls) (hi : i < ls.length) (hx : V1 (fun b => B ≤ b ∧ (Value.slice a n c).ownBlock ≠ some b) w rv l) :
  ∃ g u, a = some ⟨g, 0, none⟩ ∧ B ≤ g ∧ w.cell? ⟨g, i, none⟩ = some u ∧ w.frozen? ⟨g, i, none⟩ = false ∧ OV B (w.setCell ⟨g, i, none⟩ rv) (.slice a n c) (ls.set i l) := by
 obtain ⟨vs, ⟨hl, h⟩, hr⟩ := h
 rcases h with ⟨e, h0⟩ | ⟨g, cap, cur, e, hb, hh, hc, hm, hs, ht⟩
 ·omega
 ·simp only [Value.slice.injEq] at e
  obtain ⟨rfl, rfl, rfl⟩ := e
  have hik : i < cur.size := by omega
  refine ⟨g, cur[i], rfl, hb, by rw [cell_of_block hh]; exact Array.getElem?_eq_getElem hik, frozen_of_block hh _, vs.set i rv, ⟨by simp; omega, .inr ⟨g, c, cur.setIfInBounds i rv, by simp, hb, heap_setCell_self hh _, by simp; omega, hm, by simp; omega, by rw [← ht]; simp [List.take_set]⟩⟩, by simp [hr.1], fun k hk => ?_⟩
  have hk' : k < ls.length := by simpa using hk
  have hkeep : Keep (fun b => B ≤ b ∧ (Value.slice (some ⟨g, 0, none⟩) ls.length c).ownBlock ≠ some b) w (w.setCell ⟨g, i, none⟩ rv) := fun b hb' _ => heap_setCell_other _ (fun e => hb'.2 (by rw [e]; rfl))
  by_cases hki : i = k
  ·subst hki
   refine ⟨rv, by rw [List.getElem?_set, if_pos rfl]; simp [hr.1]; omega, ?_⟩
   rw [getl_set hk', if_pos rfl]
   exact hx.mono (fun b h _ => h) hkeep
  ·obtain ⟨ev, h1, h2⟩ := hr.2 k hk'
   refine ⟨ev, by rw [List.getElem?_set, if_neg hki]; exact h1, ?_⟩
   rw [getl_set hk', if_neg hki]
   exact h2.mono (fun b h _ => h) hkeep
theorem smallM_ok {m : Mk} (hm : m.ok = true) : SmallM m := by
 have := Mk.ok_iff.1 hm
 unfold SmallM
 omega
set_option maxRecDepth 100000 in
set_option maxHeartbeats 2000000 in
theorem l15DrawCuts_any (B0 SB : Nat) (m : Mk) (hm : m.ok = true) (ta : Option Addr) (tc n : Nat) (hn : 1 ≤ n ∧ n ≤ 900) (W : World) (h : Src B0 SB W) :
  Calls Tryz.prog 92 #[.pointer (some ⟨SB, 0, none⟩), .agg #[.int .i64 m.c, .int .i64 m.d, .int .i64 m.s, .int .i64 m.e, .int .i64 m.l, .slice ta n tc]] W fun e w' => ∃ v ls, e = .returned v ∧ (OV W.heap.size w' v ls ∧ n ≤ ls.length ∧ ls.length ≤ n + 1) ∧ Src B0 SB w' ∧ Only SB W w' := by
 have hSl := h.lt
 have hB0 : B0 ≤ SB := h.1
 obtain ⟨hn1, hn9⟩ := hn
 obtain ⟨W1, hW1, hB01, hz01, HZ01, hc01, hh01⟩ := box_facts W #[.int .i64 m.c, .int .i64 m.d, .int .i64 m.s, .int .i64 m.e, .int .i64 m.l, .slice ta n tc] 35
 have hs1' := h.below hB01
 have hbL : Below W1.heap.size W1 (W1.alloc (.cells #[] 57)) := (Below.refl _ _).alloc (Nat.le_refl _) _
 have hz1e := HZ01.out
 have hO0 : OV (W.heap.size + 1) (W1.alloc (.cells #[] 57)) (.slice (some ⟨W.heap.size + 1, 0, none⟩) 0 0) [] := OV.nil (by
  have hown0 := own_lit0 W1 (W.heap.size + 1) 57 1 (by omega)
  rw [← hz1e] at hown0 ⊢; exact hown0)
 have HL := Lib.hid (And.intro (hs1'.below hbL) (And.intro hO0 (And.intro ((Only.of_below (SB := SB) hB01).then_below hbL) ((hbL.block _ hz01).trans hh01)))); clear hbL hs1' h hh01 hz1e hO0
 go_enter Tryz.func92, Tryz.ntmps92
 go_wp2_with fail
 rw [← hW1]
 clear hc01 hW1 hB01
 go_loopw [5, 6] (fun cv i wr => ∃ (k : Nat) (ls : List (List Int)), k ≤ n ∧ i = .int .i64 (k : Int) ∧ ls.length = k ∧ OV (W.heap.size + 1) wr cv ls ∧ Src B0 SB wr ∧ Only SB W wr ∧ wr.heap[W.heap.size]? = some (.cells #[.int .i64 m.c, .int .i64 m.d, .int .i64 m.s, .int .i64 m.e, .int .i64 m.l, .slice ta n tc] 35 (0, 0))) (fun _ i _ => n - (intOf i).toNat)
 case atStart => exact ⟨0, [], Nat.zero_le _, rfl, rfl, HL.out.2.1, HL.out.1, HL.out.2.2.1, HL.out.2.2.2⟩
 case round =>
  obtain ⟨k, ls, hkn, rfl, hlk, hO, hsr, hoW, hbox⟩ := hrel
  have hzr := hoW.size
  have hzrb : W.heap.size + 1 ≤ wr.heap.size := lt_of_heap hbox
  have hc : ∀ o, wr.cell? ⟨W.heap.size, o, none⟩ = (#[.int .i64 m.c, .int .i64 m.d, .int .i64 m.s, .int .i64 m.e, .int .i64 m.l, .slice ta n tc] : Array Value)[o]? := fun o => by rw [cell_of_block hbox]
  obtain ⟨oa, oc, rfl, _, _⟩ := hO.form
  by_cases hkk : (k : Int) < (n : Int)
  ·have hd : decide (k < n) = true := decide_eq_true (by omega)
   obtain ⟨vs, hvs, hrv⟩ := hO
   have HR := Lib.hid (And.intro hlk (And.intro hvs (And.intro hrv (And.intro hsr (And.intro hoW hbox))))); clear hlk hvs hrv hsr hoW hbox
   obtain ⟨wo, rfl⟩ : ∃ x, x = wr := ⟨_, rfl⟩
   go_wp2_with fail
   refine (l02Some_any B0 SB m hm _ HR.out.2.2.2.1).mono ?_
   rintro e' w2 ⟨kv, key, rfl, ⟨hkv, hkey⟩, hs2, ho2⟩
   obtain ⟨ka, kc, rfl, _⟩ := hkv.form
   have hvs2 := own_only HR.out.2.1 ho2 (by omega)
   have hl9 : ls.length ≤ 1000 := by have := HR.out.1; omega
   have hz2 := ho2.size
   have H2 := Lib.hid (And.intro hkv (And.intro hkey (And.intro hs2 ho2))); clear hkv hkey hs2 ho2 hc
   go_wp2_with (at_builtin; refine wp_app1 _ rfl _ _ 33 rfl (W.heap.size + 1) 57 (.slice none 0 0) 24 Tryz.underlying33 inf_ints rfl _ _ _ rfl hvs2 (.slice ka key.length kc) _ rfl rfl (by omega) (by omega) (by omega) ?_; intro v1 w1 hown1 hgrow1 hblk1 hB1)
   have hP := OV.push HR.out.2.1 HR.out.2.2.1 hzrb hz2 (fun b h1 h2 => H2.out.2.2.2.block b h2 (fun e => by omega)) H2.out.1 hown1 hgrow1 hblk1
   have hg1 : Chg (fun i => W.heap.size + 1 ≤ i) w2 w1 := (Chg.refl _ _).grown hgrow1 (fun g hg => .inl (hvs2.lt g hg).1)
   have hsr1 := H2.out.2.2.1.keep hg1 (fun b hb => ⟨by omega, by omega⟩)
   have hoW1 : Only SB W w1 := Chg.trans (HR.out.2.2.2.2.1.trans H2.out.2.2.2) (G := fun i => W.heap.size + 1 ≤ i) hg1 (fun i hi => .inr (by omega))
   have hbx1 := hg1.heap (H2.out.2.2.2.heap HR.out.2.2.2.2.2 (fun e => by omega)) (fun e => by omega)
   have H4 := Lib.hid (And.intro hsr1 (And.intro hoW1 (And.intro hbx1 hP))); clear hsr1 hoW1 hbx1 hP hg1 hgrow1 hblk1 hB1 hown1 hvs2
   go_roundw
   case rel => exact ⟨k + 1, ls ++ [key], by omega, by go_num, by have := HR.out.1; simp; omega, H4.out.2.2.2, H4.out.1, H4.out.2.1, H4.out.2.2.1⟩
   case measure => simp [intOf]; omega
  ·have hd : decide (k < n) = false := decide_eq_false (by omega)
   have hlk2 : ls.length = n := by omega
   have HR := Lib.hid (And.intro hlk2 (And.intro hO (And.intro hsr (And.intro hoW hbox)))); clear hlk2 hlk hO hsr hoW hbox
   obtain ⟨wo, rfl⟩ : ∃ x, x = wr := ⟨_, rfl⟩
   go_wp2_with fail
   refine (l01Next_any B0 SB 30 _ HR.out.2.2.1).mono ?_
   rintro e' w2 ⟨x, rfl, ⟨hx0, hx1⟩, hs2, ho2⟩
   have hO2 := HR.out.2.1.only ho2 (by omega)
   have hbx2 := ho2.heap HR.out.2.2.2.2 (fun e => by omega)
   have ho2W := HR.out.2.2.2.1.trans ho2
   have hz2 := ho2.size
   have hc2 : ∀ o, w2.cell? ⟨W.heap.size, o, none⟩ = (#[.int .i64 m.c, .int .i64 m.d, .int .i64 m.s, .int .i64 m.e, .int .i64 m.l, .slice ta n tc] : Array Value)[o]? := fun o => by rw [cell_of_block hbx2]
   have H2 := Lib.hid (And.intro hO2 (And.intro hs2 (And.intro ho2W hbx2))); clear hO2 hs2 ho2 ho2W hbx2 hc
   by_cases hxz : x = 0
   ·subst hxz
    go_wp2_with fail
    refine (l02DrawCuts_any B0 SB m (smallM_ok hm) _ H2.out.2.1).mono ?_
    rintro e' w3 ⟨rv, l, rfl, ⟨hrv, hl9⟩, hs3, ho3⟩
    obtain ⟨ra, rc, rfl, _⟩ := hrv.v1.form
    have hO3 := H2.out.1.only ho3 (by omega)
    have hz3 := ho3.size
    have hown := H2.out.1
    have hrx : V1 (fun b => W.heap.size + 1 ≤ b ∧ (Value.slice oa ls.length oc).ownBlock ≠ some b) w3 (.slice ra l.length rc) l := hrv.v1.mono (fun b hb _ => ⟨by omega, fun e => by
     obtain ⟨vs, h1, _⟩ := H2.out.1
     have := (h1.lt b e).2; omega⟩) (fun _ _ _ => rfl)
    obtain ⟨g, u, rfl, hgB, hgc, hgf, hput⟩ := hO3.put (i := 0) (by have := HR.out.1; omega) hrx
    have hnl : 0 < ls.length := by have := HR.out.1; omega
    obtain ⟨w4, hw4⟩ : ∃ w4, w4 = w3.setCell ⟨g, 0, none⟩ (.slice ra l.length rc) := ⟨_, rfl⟩
    rw [← hw4] at hput
    have hs4 : Src B0 SB w4 := hs3.only (b := g) (off := 0) (by omega) (by omega) _ hw4
    have ho4 : Only SB W w4 := by rw [hw4]; exact (H2.out.2.2.1.trans ho3).setNew (by omega) _
    have H4 := Lib.hid (And.intro hput (And.intro hs4 (And.intro ho4 hw4))); clear hput hs4 ho4 hw4 hO3 hrv hs3 ho3 hrx hc2 hown
    go_wp2_with fail
    rw [← H4.out.2.2.2]
    go_wp2_with fail
    go_ret
    exact ⟨_, _, rfl, ⟨H4.out.1.base (by omega), by have := HR.out.1; simp; omega, by have := HR.out.1; simp; omega⟩, H4.out.2.1, H4.out.2.2.1⟩
   ·have hx0d : (x == 0) = false := by simp [hxz]
    by_cases hxo : x = 1
    ·subst hxo
     obtain ⟨vs, hvs, hrw⟩ := H2.out.1
     have HV := Lib.hid (And.intro hvs hrw); clear hvs hrw
     go_wp2_with fail
     refine (l02Some_any B0 SB m hm _ H2.out.2.1).mono ?_
     rintro e' w3 ⟨kv, key, rfl, ⟨hkv, hkey⟩, hs3, ho3⟩
     obtain ⟨ka, kc, rfl, _⟩ := hkv.form
     have hvs3 := own_only HV.out.1 ho3 (by omega)
     have hl9 : ls.length ≤ 1000 := by have := HR.out.1; omega
     have hz3 := ho3.size
     have H3 := Lib.hid (And.intro hkv (And.intro hkey (And.intro hs3 ho3))); clear hkv hkey hs3 ho3 hc2
     go_wp2_with (at_builtin; refine wp_app1 _ rfl _ _ 33 rfl (W.heap.size + 1) 57 (.slice none 0 0) 24 Tryz.underlying33 inf_ints rfl _ _ _ rfl hvs3 (.slice ka key.length kc) _ rfl rfl (by omega) (by omega) (by omega) ?_; intro v1 w1 hown1 hgrow1 hblk1 hB1)
     have hP := OV.push HV.out.1 HV.out.2 (by omega) hz3 (fun b h1 h2 => H3.out.2.2.2.block b h2 (fun e => by omega)) H3.out.1 hown1 hgrow1 hblk1
     have hg1 : Chg (fun i => W.heap.size + 1 ≤ i) w3 w1 := (Chg.refl _ _).grown hgrow1 (fun g hg => .inl (hvs3.lt g hg).1)
     have hsr1 := H3.out.2.2.1.keep hg1 (fun b hb => ⟨by omega, by omega⟩)
     have hoW1 : Only SB W w1 := Chg.trans (H2.out.2.2.1.trans H3.out.2.2.2) (G := fun i => W.heap.size + 1 ≤ i) hg1 (fun i hi => .inr (by omega))
     have H4 := Lib.hid (And.intro hsr1 (And.intro hoW1 hP)); clear hsr1 hoW1 hP hg1 hgrow1 hblk1 hB1 hown1 hvs3
     go_wp2_with fail
     go_ret
     exact ⟨_, _, rfl, ⟨H4.out.2.2.base (by omega), by have := HR.out.1; simp; omega, by have := HR.out.1; simp; omega⟩, H4.out.1, H4.out.2.1⟩
    ·have hx1d : (x == 1) = false := by simp [hxo]
     go_wp2_with fail
     go_ret
     exact ⟨_, _, rfl, ⟨H2.out.1.base (by omega), by have := HR.out.1; omega, by have := HR.out.1; omega⟩, H2.out.2.1, H2.out.2.2.1⟩
def geb (l : List Bool) (k : Nat) : Bool := (l[k]?).getD false
def isBo (v : Value) (b : Bool) : Prop := v = .bool b
/-- A slice of truth values. -/
def VBo (S : Nat → Prop) (w : World) (v : Value) (l : List Bool) : Prop := Vs geb isBo S w v l
theorem VBo.mono {S S' : Nat → Prop} {w w' : World} {v : Value} {l : List Bool} (h : VBo S w v l) (hS : ∀ b, S b → b < w.heap.size → S' b) (hk : Keep S w w') : VBo S' w' v l := Vs.mono h hS hk fun _ _ r => r
theorem VBo.below {S : Nat → Prop} {w w' : World} {v : Value} {l : List Bool} (h : VBo S w v l) (hb : Below w.heap.size w w') : VBo S w' v l := h.mono (fun _ h _ => h) (Below.keep hb fun _ _ h => h)
theorem VBo.cell {S : Nat → Prop} {w : World} {a : Option Addr} {n c k : Nat} {l : List Bool} (h : VBo S w (.slice a n c) l) (hk : k < l.length) : ∃ b off, a = some ⟨b, off, none⟩ ∧ S b ∧ w.cell? ⟨b, off + k, none⟩ = some (.bool (geb l k)) := by
 obtain ⟨a', c', e, hl, hm, h⟩ := h
 simp only [Value.slice.injEq] at e
 obtain ⟨rfl, rfl, rfl⟩ := e
 obtain ⟨b, off, ev, ha, hb, hc, rfl⟩ := h k hk
 exact ⟨b, off, ha, hb, hc⟩
theorem geb_app2 {l : List Bool} {x : Bool} : geb (l ++ [x]) l.length = x := by simp [geb]
theorem own_VBo {w : World} {B : Nat} {e : TypeId} {v : Value} {n : Nat} {l : List Bool} (h : w.ownsRow B e 1 v n (l.map Value.bool)) : VBo (fun b => B ≤ b) w v l := by
 obtain ⟨hl, h⟩ := h
 have hn : n = l.length := by simpa using hl.symm
 subst hn
 rcases h with ⟨rfl, h0⟩ | ⟨g, cap, cur, rfl, hb, hh, hc, hm, hs, ht⟩
 ·exact ⟨none, 0, by rw [h0], by omega, Nat.zero_le _, fun k hk => by omega⟩
 ·refine ⟨_, _, rfl, hc, hm, fun k hk => ⟨g, 0, _, rfl, hb, ?_, rfl⟩⟩
  have h1 : (cur.toList.take (l.length * 1))[k]? = (l.map Value.bool)[k]? := by rw [ht]
  rw [List.getElem?_take, if_pos (by omega), List.getElem?_map] at h1
  rw [cell_of_block hh, Nat.zero_add, ← Array.getElem?_toList, h1]
  unfold geb
  rw [List.getElem?_eq_getElem hk]; rfl
theorem inf_bool : (Tryz.prog.info? 4).map (fun i => (i.zero, i.size, i.bytes)) = some (some (.bool false), 1, 1) := by kernel_rfl
theorem own_bools {w : World} {B : Nat} {v1 : Value} {l : List Bool} {x : Bool} (h : w.ownsRow B 4 1 v1 (l.length + 1) (l.map Value.bool ++ [.bool x])) : w.ownsRow B 4 1 v1 (l ++ [x]).length ((l ++ [x]).map Value.bool) := by simpa using h
theorem own_lit1 (w : World) (base : Nat) (e : TypeId) (x : Value) (hb : base ≤ w.heap.size) : (w.alloc (.cells #[x] e)).ownsRow base e 1 (.slice (some ⟨w.heap.size, 0, none⟩) 1 1) 1 [x] :=
 ⟨rfl, .inr ⟨w.heap.size, 1, #[x], rfl, hb, heap_alloc_self _ _, Nat.le_refl _, by unfold maxLen; omega, rfl, rfl⟩⟩
/-- Two lists do not share their memory. -/
def Dis (u v : Value) : Prop := ∀ g, u.ownBlock = some g → v.ownBlock ≠ some g
theorem Dis.symm {u v : Value} (h : Dis u v) : Dis v u := fun g h1 h2 => h g h2 h1
theorem dis_grow {w w1 : World} {v v1 u : Value} {B : Nat} {E : TypeId} {n : Nat} {xs : List Value} (hu : w.ownsRow B E 1 u n xs) (hg : w.grownBy w1 v.ownBlock) (hd : Dis v u) (hblk : v1.ownBlock = v.ownBlock ∨ ∃ g, v1.ownBlock = some g ∧ w.heap.size ≤ g) :
  w1.ownsRow B E 1 u n xs ∧ Dis v1 u := by
 refine ⟨own_chg hu ((Chg.refl (fun i => v.ownBlock = some i) w).grown hg (fun g hg => .inl hg)) (fun g h1 h2 => hd g h2 h1), fun g h1 h2 => ?_⟩
 rcases hblk with e | ⟨g', e, hge⟩
 ·exact hd g (by rw [← e]; exact h1) h2
 ·rw [h1] at e; cases e
  have := (hu.lt g h2).2; omega
theorem dis_lit {a b n c m d : Nat} (h : a ≠ b) : Dis (.slice (some ⟨a, 0, none⟩) n c) (.slice (some ⟨b, 0, none⟩) m d) := fun g h1 h2 => h ((Option.some.inj h1).trans (Option.some.inj h2).symm)
/-- Parents come before their children; the first has none. -/
def Par (P : List Int) : Prop := ∀ i, i < P.length → -1 ≤ geti P i ∧ geti P i < i ∧ (1 ≤ i → 0 ≤ geti P i)
theorem alloc_sz (w : World) (o : Obj) : (w.alloc o).heap.size = w.heap.size + 1 := Array.size_push _
/-- A building's lists. -/
def Bld (P : List Int) (D : List Bool) : Prop := (2 ≤ P.length ∧ P.length ≤ 10) ∧ D.length = P.length ∧ Par P ∧ geb D (P.length - 1) = true
theorem Par.snoc {P : List Int} {x : Int} (h : Par P) (hn : 1 ≤ P.length) (h0 : 0 ≤ x) (h1 : x < P.length) : Par (P ++ [x]) := fun i hi => by
 by_cases hiP : i < P.length
 ·rw [geti_append hiP]; exact h i hiP
 ·have e : i = P.length := by simp at hi; omega
  subst e
  rw [geti_snoc]
  omega
theorem put2_facts {B0 SB RB : Nat} {W w : World} {c0 c1 : Value} {T : TypeId} (hs : Src B0 SB w) (ho : Only SB W w) (h : w.heap[RB]? = some (.cells #[c0, c1] T (0, 0))) (n1 : RB ≠ SB) (n2 : W.heap.size ≤ RB) (n3 : B0 ≤ RB) (v0 v1 : Value) (w' : World) (he : w' = (w.setCell ⟨RB, 0, none⟩ v0).setCell ⟨RB, 1, none⟩ v1) :
  Src B0 SB w' ∧ Only SB W w' ∧ w'.heap[RB]? = some (.cells #[v0, v1] T (0, 0)) ∧ ∀ b, b ≠ RB → w'.heap[b]? = w.heap[b]? := by
 subst he
 refine ⟨(hs.only n1 n3 v0 rfl).only n1 n3 v1 rfl, (ho.setNew n2 v0).setNew n2 v1, ?_, fun b hb => ?_⟩
 ·rw [heap_setCell_self (heap_setCell_self h _) _]
  simp
 ·rw [heap_setCell_other _ hb, heap_setCell_other _ hb]
set_option maxRecDepth 100000 in
set_option maxHeartbeats 4000000 in
theorem l09Valid_any (B0 SB : Nat) (W : World) (h : Src B0 SB W) :
  Calls Tryz.prog 152 #[.pointer (some ⟨SB, 0, none⟩)] W fun e w' => ∃ (P : List Int) (D : List Bool) (pa da : Option Addr) (pc dc : Nat), e = .returned (.agg #[.slice pa P.length pc, .slice da D.length dc]) ∧ (Bld P D ∧ V1 (fun b => W.heap.size ≤ b) w' (.slice pa P.length pc) P ∧ VBo (fun b => W.heap.size ≤ b) w' (.slice da D.length dc) D) ∧ Src B0 SB w' ∧ Only SB W w' := by
 have hSl := h.lt
 have hB0 : B0 ≤ SB := h.1
 obtain ⟨W1, hW1, hB01, hz01, HZ01, _, hh01⟩ := box_facts W #[.slice none 0 0, .slice none 0 0] 163
 have hs1' := h.below hB01
 have HL := Lib.hid (And.intro hs1' (And.intro hB01 (And.intro hh01 hW1))); clear hs1' h hh01 hB01
 go_enter Tryz.func152, Tryz.ntmps152
 go_wp2_with fail
 rw [← hW1]
 clear hW1
 refine (l01Next_any B0 SB 9 _ HL.out.1).mono ?_
 rintro e' w2 ⟨x, rfl, ⟨hx0, hx1⟩, hs2, ho2⟩
 have hz2 := ho2.size
 obtain ⟨N, hN⟩ : ∃ N : Nat, (N : Int) = 2 + x := ⟨(2 + x).toNat, by omega⟩
 have hN2 : 2 ≤ N ∧ N ≤ 10 := by omega
 obtain ⟨wa, hwa⟩ : ∃ wa, wa = w2.alloc (.cells #[.int .i64 (-1)] 2) := ⟨_, rfl⟩
 obtain ⟨wb, hwb⟩ : ∃ wb, wb = wa.alloc (.cells #[.bool false] 4) := ⟨_, rfl⟩
 obtain ⟨wc, hwc⟩ : ∃ wc, wc = wb.alloc (.cells #[.int .i64 0] 2) := ⟨_, rfl⟩
 have hba : Below w2.heap.size w2 wa := by rw [hwa]; exact (Below.refl _ _).alloc (Nat.le_refl _) _
 have hbb : Below wa.heap.size wa wb := by rw [hwb]; exact (Below.refl _ _).alloc (Nat.le_refl _) _
 have hbc : Below wb.heap.size wb wc := by rw [hwc]; exact (Below.refl _ _).alloc (Nat.le_refl _) _
 have hza : wa.heap.size = w2.heap.size + 1 := by rw [hwa]; exact alloc_sz _ _
 have hzb : wb.heap.size = wa.heap.size + 1 := by rw [hwb]; exact alloc_sz _ _
 have hzc : wc.heap.size = wb.heap.size + 1 := by rw [hwc]; exact alloc_sz _ _
 have hoP : wc.ownsRow (W.heap.size + 1) 2 1 (.slice (some ⟨w2.heap.size, 0, none⟩) 1 1) 1 [.int .i64 (-1)] := own_keep (own_keep (by rw [hwa]; exact own_lit1 _ _ _ _ (by omega)) hbb) hbc
 have hoD : wc.ownsRow (W.heap.size + 1) 4 1 (.slice (some ⟨wa.heap.size, 0, none⟩) 1 1) 1 [.bool false] := own_keep (by rw [hwb]; exact own_lit1 _ _ _ _ (by omega)) hbc
 have hoG : wc.ownsRow (W.heap.size + 1) 2 1 (.slice (some ⟨wb.heap.size, 0, none⟩) 1 1) 1 [.int .i64 0] := by rw [hwc]; exact own_lit1 _ _ _ _ (by omega)
 have hR2 := ho2.heap HL.out.2.2.1 (fun e => by omega)
 have hRc : wc.heap[W.heap.size]? = some (.cells #[.slice none 0 0, .slice none 0 0] 163 (0, 0)) := (hbc.block _ (by omega)).trans ((hbb.block _ (by omega)).trans ((hba.block _ (by omega)).trans hR2))
 have hoWc : Only SB W wc := ((((Only.of_below HL.out.2.1).trans ho2).then_below hba).then_below hbb).then_below hbc
 have HC := Lib.hid (And.intro (((hs2.below hba).below hbb).below hbc) (And.intro hoWc (And.intro hRc (And.intro hoP (And.intro hoD (And.intro hoG (And.intro hwa (And.intro hwb hwc)))))))); clear hs2 ho2 hoP hoD hoG hR2 hRc hoWc hwa hwb hwc hba hbb hbc
 go_wp2_with fail
 rw [← hN]
 clear hN hx0 hx1
 rw [← HC.out.2.2.2.2.2.2.1]
 go_wp2_with fail
 rw [← HC.out.2.2.2.2.2.2.2.1, ← HC.out.2.2.2.2.2.2.2.2, ← hza, ← hzb]
 go_loopw [4, 5, 6, 7, 8] (fun pv dv gv i _ wr => ∃ (k : Nat) (P : List Int) (D : List Bool) (G : List Int), (1 ≤ k ∧ k ≤ N) ∧ i = .int .i64 (k : Int) ∧ (P.length = k ∧ D.length = k ∧ Par P ∧ (k = N → geb D (N - 1) = true)) ∧ ((1 ≤ G.length ∧ G.length ≤ k) ∧ ∀ j, j < G.length → 0 ≤ geti G j ∧ geti G j < k) ∧ wr.ownsRow (W.heap.size + 1) 2 1 pv P.length (P.map (Value.int .i64)) ∧ wr.ownsRow (W.heap.size + 1) 4 1 dv D.length (D.map Value.bool) ∧ wr.ownsRow (W.heap.size + 1) 2 1 gv G.length (G.map (Value.int .i64)) ∧ Dis pv dv ∧ Dis pv gv ∧ Dis dv gv ∧ Src B0 SB wr ∧ Only SB W wr ∧ wr.heap[W.heap.size]? = some (.cells #[.slice none 0 0, .slice none 0 0] 163 (0, 0))) (fun _ _ _ i _ _ => N - (intOf i).toNat)
 case atStart =>
  exact ⟨1, [-1], [false], [0], ⟨by omega, by omega⟩, rfl, ⟨rfl, rfl, fun i hi => by
   have e : i = 0 := by simpa using hi
   subst e; exact ⟨by decide, by decide, by omega⟩, fun e => by omega⟩, ⟨⟨by simp, by simp⟩, fun j hj => by
   have e : j = 0 := by simpa using hj
   subst e; exact ⟨by decide, by decide⟩⟩, HC.out.2.2.2.1, HC.out.2.2.2.2.1, HC.out.2.2.2.2.2.1, dis_lit (by omega), dis_lit (by omega), dis_lit (by omega), HC.out.1, HC.out.2.1, HC.out.2.2.1⟩
 case round =>
  clear hza hzb hzc
  obtain ⟨k, P, D, G0, ⟨hk1, hkN⟩, rfl, ⟨hPk, hDk, hPar, hlast⟩, ⟨⟨hG1, hGk⟩, hGr⟩, hoP, hoD, hoG, hd1, hd2, hd3, hsr, hoW, hbx⟩ := hrel
  have hzr : W.heap.size < wr.heap.size := lt_of_heap hbx
  obtain ⟨pa, pc, rfl, _, _⟩ := own_form hoP
  obtain ⟨da, dc, rfl, _, _⟩ := own_form hoD
  obtain ⟨ga, gc, rfl, _, _⟩ := own_form hoG
  obtain ⟨wo, rfl⟩ : ∃ x, x = wr := ⟨_, rfl⟩
  by_cases hkk : (k : Int) < (N : Int)
  ·have hd : decide (k < N) = true := decide_eq_true (by omega)
   have hl10 : P.length ≤ 1000 := by omega
   have HP := Lib.hid (And.intro hPk (And.intro hDk (And.intro hPar (And.intro hGk hGr)))); clear hPk hDk hPar hlast hGk hGr
   have HR := Lib.hid (And.intro hoP (And.intro hoD (And.intro hoG (And.intro hd1 (And.intro hd2 (And.intro hd3 (And.intro hsr (And.intro hoW hbx)))))))); clear hoP hoD hoG hd1 hd2 hd3 hsr hoW hbx
   go_wp2_with fail
   refine (l01Next_any B0 SB _ _ HR.out.2.2.2.2.2.2.1).mono ?_
   rintro e' w3 ⟨y, rfl, ⟨hy0, hy1⟩, hs3, ho3⟩
   obtain ⟨y, rfl⟩ : ∃ q : Nat, y = (q : Int) := ⟨y.toNat, by omega⟩
   have hyG : y < G0.length := by omega
   have hoP3 := own_only HR.out.1 ho3 (by omega)
   have hoD3 := own_only HR.out.2.1 ho3 (by omega)
   have hoG3 := own_only HR.out.2.2.1 ho3 (by omega)
   obtain ⟨gb, go, hga, _, hgc⟩ := (own_V1 hoG3).cell hyG
   subst hga
   have hbx3 := ho3.heap HR.out.2.2.2.2.2.2.2.2 (fun e => by omega)
   have ho3W := HR.out.2.2.2.2.2.2.2.1.trans ho3
   have hz3 := ho3.size
   have hgr := HP.out.2.2.2.2 y hyG
   have H3 := Lib.hid (And.intro hoP3 (And.intro hoD3 (And.intro hoG3 (And.intro hs3 (And.intro ho3W (And.intro hbx3 hgr)))))); clear hoP3 hoD3 hoG3 hs3 ho3W hbx3 hgr ho3 hy0 hy1
   by_cases hkl : (k : Int) = (N : Int) - 1
   ·have hkd : ((k : Int) == (N : Int) - 1) = true := by rw [beq_iff_eq]; exact hkl
    have HK := Lib.hid hkl; clear hkl
    go_wp2_with ((at_builtin; refine wp_app1 _ rfl _ _ 57 rfl (W.heap.size + 1) 2 (.int .i64 0) 8 Tryz.underlying57 inf_int rfl _ _ _ rfl H3.out.1 (.int .i64 (geti G0 y)) _ rfl rfl (by omega) (by omega) (by omega) ?_; intro v1 w1 hown1 hgrow1 hblk1 hB1); refine Hid.out ?_)
    refine Lib.hid ?_
    have hP1 := own_ints (v := .slice none 0 0) hown1
    have hD1 := dis_grow H3.out.2.1 hgrow1 HR.out.2.2.2.1 hblk1
    have hG1 := dis_grow H3.out.2.2.1 hgrow1 HR.out.2.2.2.2.1 hblk1
    have hg1 : Chg (fun i => W.heap.size + 1 ≤ i) w3 w1 := (Chg.refl _ _).grown hgrow1 (fun g hg => .inl (H3.out.1.lt g hg).1)
    have hs1 := H3.out.2.2.2.1.keep hg1 (fun b hb => ⟨by omega, by omega⟩)
    have hoW1 : Only SB W w1 := Chg.trans H3.out.2.2.2.2.1 (G := fun i => W.heap.size + 1 ≤ i) hg1 (fun i hi => .inr (by omega))
    have hbx1 := hg1.heap H3.out.2.2.2.2.2.1 (fun e => by omega)
    obtain ⟨pa4, pc4, rfl, _, _⟩ := own_form hown1
    have hDk9 : D.length ≤ 10 := by have := HP.out.2.1; omega
    have hz4 := hB1.size
    obtain ⟨w4, rfl⟩ : ∃ x, x = w1 := ⟨_, rfl⟩
    have H4 := Lib.hid (And.intro hP1 (And.intro hD1.1 (And.intro hG1.1 (And.intro hD1.2 (And.intro hG1.2 (And.intro HR.out.2.2.2.2.2.1 (And.intro hs1 (And.intro hoW1 (And.intro hbx1 hDk9))))))))); clear hP1 hD1 hG1 hg1 hs1 hoW1 hbx1 hgrow1 hblk1 hB1 hown1 hgc hDk9
    have hDl : D.length ≤ 1000 := by have := H4.out.2.2.2.2.2.2.2.2.2; omega
    go_wp2_with ((at_builtin; refine wp_app1 _ rfl _ _ 161 rfl (W.heap.size + 1) 4 (.bool false) 1 Tryz.underlying161 inf_bool rfl _ _ _ rfl H4.out.2.1 (.bool true) _ rfl rfl (by omega) (by omega) (by omega) ?_; intro v1 w1 hown1 hgrow1 hblk1 hB1); refine Hid.out ?_)
    refine Lib.hid ?_
    have hD1 := own_bools hown1
    have hz9 := hB1.size
    have hP1 := dis_grow H4.out.1 hgrow1 H4.out.2.2.2.1.symm hblk1
    have hG1 := dis_grow H4.out.2.2.1 hgrow1 H4.out.2.2.2.2.2.1 hblk1
    have hg1 : Chg (fun i => W.heap.size + 1 ≤ i) w4 w1 := (Chg.refl _ _).grown hgrow1 (fun g hg => .inl (H4.out.2.1.lt g hg).1)
    have hs1 := H4.out.2.2.2.2.2.2.1.keep hg1 (fun b hb => ⟨by omega, by omega⟩)
    have hoW1 : Only SB W w1 := Chg.trans H4.out.2.2.2.2.2.2.2.1 (G := fun i => W.heap.size + 1 ≤ i) hg1 (fun i hi => .inr (by omega))
    have hbx1 := hg1.heap H4.out.2.2.2.2.2.2.2.2.1 (fun e => by omega)
    have H9 := Lib.hid (And.intro hP1.1 (And.intro hD1 (And.intro hG1.1 (And.intro hP1.2.symm (And.intro H4.out.2.2.2.2.1 (And.intro hG1.2 (And.intro hs1 (And.intro hoW1 hbx1)))))))); clear hP1 hD1 hG1 hg1 hs1 hoW1 hbx1 hgrow1 hblk1 hB1 hown1
    go_wp2_with fail
    go_roundw
    case rel =>
     have hP := HP.out
     have hkl := HK.out
     obtain ⟨hPk, hDk, hPar, hGk, hGr⟩ := hP
     refine ⟨k + 1, P ++ [geti G0 y], D ++ [true], G0, ⟨by omega, by omega⟩, by go_num, ⟨by simp; omega, by simp; omega, hPar.snoc (by omega) H3.out.2.2.2.2.2.2.1 (by have := H3.out.2.2.2.2.2.2.2; omega), fun e => ?_⟩, ⟨⟨by first | omega | (simp; done) | (simp; omega), by first | omega | (simp; done) | (simp; omega)⟩, fun j hj => ?_⟩, (by first | exact H9.out | (have h9 := H9.out; simp only [List.length_append, List.length_cons, List.length_nil, Nat.zero_add] at h9 ⊢; exact h9))⟩
     ·have e2 : N - 1 = D.length := by omega
      rw [e2, geb_app2]
      all_goals (exfalso; omega)
     ·first
      | (by_cases hjl : j < G0.length
         ·rw [geti_append hjl]; have := hGr j hjl; omega
         ·have e : j = G0.length := by simp at hj; omega
          subst e; rw [geti_snoc]; omega)
      | (have := hGr j hj; omega)
    case measure => simp [intOf]; omega
   ·have hkd : ((k : Int) == (N : Int) - 1) = false := by simp [hkl]
    have HK := Lib.hid hkl; clear hkl
    go_wp2_with ((at_builtin; refine wp_app1 _ rfl _ _ 57 rfl (W.heap.size + 1) 2 (.int .i64 0) 8 Tryz.underlying57 inf_int rfl _ _ _ rfl H3.out.1 (.int .i64 (geti G0 y)) _ rfl rfl (by omega) (by omega) (by omega) ?_; intro v1 w1 hown1 hgrow1 hblk1 hB1); refine Hid.out ?_)
    refine Lib.hid ?_
    have hP1 := own_ints (v := .slice none 0 0) hown1
    have hD1 := dis_grow H3.out.2.1 hgrow1 HR.out.2.2.2.1 hblk1
    have hG1 := dis_grow H3.out.2.2.1 hgrow1 HR.out.2.2.2.2.1 hblk1
    have hg1 : Chg (fun i => W.heap.size + 1 ≤ i) w3 w1 := (Chg.refl _ _).grown hgrow1 (fun g hg => .inl (H3.out.1.lt g hg).1)
    have hs1 := H3.out.2.2.2.1.keep hg1 (fun b hb => ⟨by omega, by omega⟩)
    have hoW1 : Only SB W w1 := Chg.trans H3.out.2.2.2.2.1 (G := fun i => W.heap.size + 1 ≤ i) hg1 (fun i hi => .inr (by omega))
    have hbx1 := hg1.heap H3.out.2.2.2.2.2.1 (fun e => by omega)
    obtain ⟨pa4, pc4, rfl, _, _⟩ := own_form hown1
    have hDk9 : D.length ≤ 10 := by have := HP.out.2.1; omega
    have hz4 := hB1.size
    obtain ⟨w4, rfl⟩ : ∃ x, x = w1 := ⟨_, rfl⟩
    have H4 := Lib.hid (And.intro hP1 (And.intro hD1.1 (And.intro hG1.1 (And.intro hD1.2 (And.intro hG1.2 (And.intro HR.out.2.2.2.2.2.1 (And.intro hs1 (And.intro hoW1 (And.intro hbx1 hDk9))))))))); clear hP1 hD1 hG1 hg1 hs1 hoW1 hbx1 hgrow1 hblk1 hB1 hown1 hgc hDk9
    go_wp2_with fail
    refine (l01Next_any B0 SB 3 _ H4.out.2.2.2.2.2.2.1).mono ?_
    rintro e' w5 ⟨z, rfl, ⟨hz0, hz1⟩, hs5, ho5⟩
    have hoP5 := own_only H4.out.1 ho5 (by omega)
    have hoD5 := own_only H4.out.2.1 ho5 (by omega)
    have hoG5 := own_only H4.out.2.2.1 ho5 (by omega)
    have hbx5 := ho5.heap H4.out.2.2.2.2.2.2.2.2.1 (fun e => by omega)
    have ho5W := H4.out.2.2.2.2.2.2.2.1.trans ho5
    have hz5 := ho5.size
    have H5 := Lib.hid (And.intro hoP5 (And.intro hoD5 (And.intro hoG5 (And.intro H4.out.2.2.2.1 (And.intro H4.out.2.2.2.2.1 (And.intro H4.out.2.2.2.2.2.1 (And.intro hs5 (And.intro ho5W (And.intro hbx5 H4.out.2.2.2.2.2.2.2.2.2))))))))); clear hoP5 hoD5 hoG5 hbx5 ho5W hs5 ho5
    by_cases hzp : 0 < z
    ·have hzd : decide (0 < z) = true := decide_eq_true hzp
     have hDl : D.length ≤ 1000 := by have := H5.out.2.2.2.2.2.2.2.2.2; omega
     go_wp2_with ((at_builtin; refine wp_app1 _ rfl _ _ 161 rfl (W.heap.size + 1) 4 (.bool false) 1 Tryz.underlying161 inf_bool rfl _ _ _ rfl H5.out.2.1 (.bool true) _ rfl rfl (by omega) (by omega) (by omega) ?_; intro v1 w1 hown1 hgrow1 hblk1 hB1); refine Hid.out ?_)
     refine Lib.hid ?_
     have hD1 := own_bools hown1
     have hz9 := hB1.size
     have hP1 := dis_grow H5.out.1 hgrow1 H5.out.2.2.2.1.symm hblk1
     have hG1 := dis_grow H5.out.2.2.1 hgrow1 H5.out.2.2.2.2.2.1 hblk1
     have hg1 : Chg (fun i => W.heap.size + 1 ≤ i) w5 w1 := (Chg.refl _ _).grown hgrow1 (fun g hg => .inl (H5.out.2.1.lt g hg).1)
     have hs1 := H5.out.2.2.2.2.2.2.1.keep hg1 (fun b hb => ⟨by omega, by omega⟩)
     have hoW1 : Only SB W w1 := Chg.trans H5.out.2.2.2.2.2.2.2.1 (G := fun i => W.heap.size + 1 ≤ i) hg1 (fun i hi => .inr (by omega))
     have hbx1 := hg1.heap H5.out.2.2.2.2.2.2.2.2.1 (fun e => by omega)
     have H9 := Lib.hid (And.intro hP1.1 (And.intro hD1 (And.intro hG1.1 (And.intro hP1.2.symm (And.intro H5.out.2.2.2.2.1 (And.intro hG1.2 (And.intro hs1 (And.intro hoW1 hbx1)))))))); clear hP1 hD1 hG1 hg1 hs1 hoW1 hbx1 hgrow1 hblk1 hB1 hown1
     go_wp2_with fail
     go_roundw
     case rel =>
      have hP := HP.out
      have hkl := HK.out
      obtain ⟨hPk, hDk, hPar, hGk, hGr⟩ := hP
      refine ⟨k + 1, P ++ [geti G0 y], D ++ [true], G0, ⟨by omega, by omega⟩, by go_num, ⟨by simp; omega, by simp; omega, hPar.snoc (by omega) H3.out.2.2.2.2.2.2.1 (by have := H3.out.2.2.2.2.2.2.2; omega), fun e => ?_⟩, ⟨⟨by first | omega | (simp; done) | (simp; omega), by first | omega | (simp; done) | (simp; omega)⟩, fun j hj => ?_⟩, (by first | exact H9.out | (have h9 := H9.out; simp only [List.length_append, List.length_cons, List.length_nil, Nat.zero_add] at h9 ⊢; exact h9))⟩
      ·have e2 : N - 1 = D.length := by omega
       rw [e2, geb_app2]
       all_goals (exfalso; omega)
      ·first
       | (by_cases hjl : j < G0.length
          ·rw [geti_append hjl]; have := hGr j hjl; omega
          ·have e : j = G0.length := by simp at hj; omega
           subst e; rw [geti_snoc]; omega)
       | (have := hGr j hj; omega)
     case measure => simp [intOf]; omega
    ·have hzd : decide (0 < z) = false := decide_eq_false hzp
     have hDl : D.length ≤ 1000 := by have := H5.out.2.2.2.2.2.2.2.2.2; omega
     go_wp2_with ((at_builtin; refine wp_app1 _ rfl _ _ 161 rfl (W.heap.size + 1) 4 (.bool false) 1 Tryz.underlying161 inf_bool rfl _ _ _ rfl H5.out.2.1 (.bool false) _ rfl rfl (by omega) (by omega) (by omega) ?_; intro v1 w1 hown1 hgrow1 hblk1 hB1); refine Hid.out ?_)
     refine Lib.hid ?_
     have hD1 := own_bools hown1
     have hz9 := hB1.size
     have hP1 := dis_grow H5.out.1 hgrow1 H5.out.2.2.2.1.symm hblk1
     have hG1 := dis_grow H5.out.2.2.1 hgrow1 H5.out.2.2.2.2.2.1 hblk1
     have hg1 : Chg (fun i => W.heap.size + 1 ≤ i) w5 w1 := (Chg.refl _ _).grown hgrow1 (fun g hg => .inl (H5.out.2.1.lt g hg).1)
     have hs1 := H5.out.2.2.2.2.2.2.1.keep hg1 (fun b hb => ⟨by omega, by omega⟩)
     have hoW1 : Only SB W w1 := Chg.trans H5.out.2.2.2.2.2.2.2.1 (G := fun i => W.heap.size + 1 ≤ i) hg1 (fun i hi => .inr (by omega))
     have hbx1 := hg1.heap H5.out.2.2.2.2.2.2.2.2.1 (fun e => by omega)
     have H9 := Lib.hid (And.intro hP1.1 (And.intro hD1 (And.intro hG1.1 (And.intro hP1.2.symm (And.intro H5.out.2.2.2.2.1 (And.intro hG1.2 (And.intro hs1 (And.intro hoW1 hbx1)))))))); clear hP1 hD1 hG1 hg1 hs1 hoW1 hbx1 hgrow1 hblk1 hB1 hown1
     obtain ⟨da5, dc5, hv5, _, _⟩ := own_form H9.out.2.1
     have hv5 : v1 = .slice da5 (D.length + 1) dc5 := by simpa using hv5
     subst hv5
     obtain ⟨w6, rfl⟩ : ∃ x, x = w1 := ⟨_, rfl⟩
     have hGl : G0.length ≤ 1000 := by have := HP.out.2.2.2.1; omega
     go_wp2_with (at_builtin; refine wp_app1 _ rfl _ _ 57 rfl (W.heap.size + 1) 2 (.int .i64 0) 8 Tryz.underlying57 inf_int rfl _ _ _ rfl H9.out.2.2.1 (.int .i64 (k : Int)) _ rfl rfl (by omega) (by omega) (by omega) ?_; intro v1 w1 hown1 hgrow1 hblk1 hB1)
     have hG1 := own_ints (v := .slice none 0 0) hown1
     have hP1 := dis_grow H9.out.1 hgrow1 H9.out.2.2.2.2.1.symm hblk1
     have hD1 := dis_grow H9.out.2.1 hgrow1 H9.out.2.2.2.2.2.1.symm hblk1
     have hg1 : Chg (fun i => W.heap.size + 1 ≤ i) w6 w1 := (Chg.refl _ _).grown hgrow1 (fun g hg => .inl (H9.out.2.2.1.lt g hg).1)
     have hs1 := H9.out.2.2.2.2.2.2.1.keep hg1 (fun b hb => ⟨by omega, by omega⟩)
     have hoW1 : Only SB W w1 := Chg.trans H9.out.2.2.2.2.2.2.2.1 (G := fun i => W.heap.size + 1 ≤ i) hg1 (fun i hi => .inr (by omega))
     have hbx1 := hg1.heap H9.out.2.2.2.2.2.2.2.2 (fun e => by omega)
     have H8 := H9
     have H9 := Lib.hid (And.intro hP1.1 (And.intro hD1.1 (And.intro hG1 (And.intro H8.out.2.2.2.1 (And.intro hP1.2.symm (And.intro hD1.2.symm (And.intro hs1 (And.intro hoW1 hbx1)))))))); clear hP1 hD1 hG1 hg1 hs1 hoW1 hbx1 hgrow1 hblk1 hB1 hown1 H8
     go_roundw
     case rel =>
      have hP := HP.out
      have hkl := HK.out
      obtain ⟨hPk, hDk, hPar, hGk, hGr⟩ := hP
      refine ⟨k + 1, P ++ [geti G0 y], D ++ [false], (G0 ++ [(k : Int)]), ⟨by omega, by omega⟩, by go_num, ⟨by simp; omega, by simp; omega, hPar.snoc (by omega) H3.out.2.2.2.2.2.2.1 (by have := H3.out.2.2.2.2.2.2.2; omega), fun e => ?_⟩, ⟨⟨by first | omega | (simp; done) | (simp; omega), by first | omega | (simp; done) | (simp; omega)⟩, fun j hj => ?_⟩, (by first | exact H9.out | (have h9 := H9.out; simp only [List.length_append, List.length_cons, List.length_nil, Nat.zero_add] at h9 ⊢; exact h9))⟩
      ·have e2 : N - 1 = D.length := by omega
       rw [e2, geb_app2]
       all_goals (exfalso; omega)
      ·first
       | (by_cases hjl : j < G0.length
          ·rw [geti_append hjl]; have := hGr j hjl; omega
          ·have e : j = G0.length := by simp at hj; omega
           subst e; rw [geti_snoc]; omega)
       | (have := hGr j hj; omega)
     case measure => simp [intOf]; omega
  ·have hd : decide (k < N) = false := decide_eq_false (by omega)
   have hkN2 : k = N := by omega
   have hPb : P.length = N ∧ Bld P D := ⟨by omega, ⟨by omega, by omega⟩, by omega, hPar, by rw [hPk, hkN2]; exact hlast hkN2⟩
   have hVP := (own_F1 hoP).v1
   have hVD := own_VBo hoD
   have hcR : ∀ o, wo.cell? ⟨W.heap.size, o, none⟩ = (#[.slice none 0 0, .slice none 0 0] : Array Value)[o]? := fun o => by rw [cell_of_block hbx]
   have hfR := fun o => frozen_of_block hbx o
   have HE := Lib.hid (And.intro hPb (And.intro hVP (And.intro hVD (And.intro hsr (And.intro hoW hbx))))); clear hPb hVP hVD hsr hoW hbx hPk hDk hPar hlast hGr hG1 hGk hoP hoD hoG hd1 hd2 hd3
   go_wp2_with fail
   obtain ⟨wz, hwz⟩ : ∃ wz, wz = (wo.setCell ⟨W.heap.size, 0, none⟩ (.slice pa P.length pc)).setCell ⟨W.heap.size, 1, none⟩ (.slice da D.length dc) := ⟨_, rfl⟩
   rw [← hwz]
   obtain ⟨hz1, hz2, hz3, hz4⟩ := put2_facts HE.out.2.2.2.1 HE.out.2.2.2.2.1 HE.out.2.2.2.2.2 (by omega) (Nat.le_refl _) (by omega) _ _ _ hwz
   have hc0 : wz.cell? ⟨W.heap.size, 0, none⟩ = some (.slice pa P.length pc) := by rw [cell_of_block hz3]; rfl
   have hc1 : wz.cell? ⟨W.heap.size, 1, none⟩ = some (.slice da D.length dc) := by rw [cell_of_block hz3]; rfl
   have hkp : Keep (fun b => W.heap.size + 1 ≤ b) wo wz := fun b hb _ => hz4 b (by omega)
   exact bodyPost_ret (v := .agg #[.slice pa P.length pc, .slice da D.length dc]) (by simp [results, Tryz.results152, go_sem, hc0, hc1]) rfl ⟨P, D, pa, da, pc, dc, rfl, ⟨HE.out.1.2, HE.out.2.1.mono (fun b h _ => by omega) hkp, HE.out.2.2.1.mono (fun b h _ => by omega) hkp⟩, hz1, hz2⟩
def parI (P : List Int) (x : Int) : Int := if x < 0 then -1 else geti P x.toNat
def chainP (P : List Int) : Nat → Int → Int
 | 0, x => x
 | k + 1, x => chainP P k (parI P x)
def Under (P : List Int) (o x : Int) : Prop := 0 ≤ o ∧ ∃ k, chainP P k x = o
theorem chain_neg (P : List Int) : ∀ k, chainP P k (-1) = -1
 | 0 => rfl
 | k + 1 => by
   have e : parI P (-1) = -1 := rfl
   rw [chainP, e]; exact chain_neg P k
theorem under_neg {P : List Int} {o : Int} : ¬ Under P o (-1) := by
 rintro ⟨h0, k, h1⟩
 rw [chain_neg] at h1
 omega
theorem under_self {P : List Int} {x : Int} (h : 0 ≤ x) : Under P x x := ⟨h, 0, rfl⟩
theorem under_step {P : List Int} {o x : Int} (h : 0 ≤ x) (hn : x ≠ o) : Under P o x ↔ Under P o (geti P x.toNat) := by
 have e : parI P x = geti P x.toNat := if_neg (by omega)
 refine ⟨fun ⟨h0, k, h1⟩ => ?_, fun ⟨h0, k, h1⟩ => ⟨h0, k + 1, by rw [chainP, e]; exact h1⟩⟩
 cases k with
 | zero => exact absurd h1 hn
 | succ k => exact ⟨h0, k, by rw [chainP, e] at h1; exact h1⟩
theorem under_root {P : List Int} (hP : Par P) : ∀ n x : Nat, x ≤ n → x < P.length → Under P 0 (x : Int) := by
 intro n
 induction n with
 | zero =>
   intro x hx _
   have e : x = 0 := by omega
   subst e
   exact under_self (by simp)
 | succ n ih =>
   intro x hx hl
   by_cases h0 : x = 0
   ·subst h0; exact under_self (by simp)
   ·obtain ⟨_, h1, h2⟩ := hP x hl
    have h2 := h2 (by omega)
    rw [under_step (by omega) (by omega)]
    have h3 := ih (geti P x).toNat (by omega) (by omega)
    rw [show (((geti P x).toNat : Nat) : Int) = geti P x by omega] at h3
    simpa using h3
open Classical in
noncomputable def underB (P : List Int) (o x : Int) : Bool := decide (Under P o x)
theorem underB_t {P : List Int} {o x : Int} (h : Under P o x) : underB P o x = true := by unfold underB; simp [h]
theorem underB_f {P : List Int} {o x : Int} (h : ¬ Under P o x) : underB P o x = false := by unfold underB; simp [h]
set_option maxRecDepth 100000 in
set_option maxHeartbeats 2000000 in
theorem l09Under_f {S : Nat → Prop} (P : List Int) (pa da : Option Addr) (pc dn dc : Nat) (x o : Int) (hP : Par P) (hl : P.length ≤ 1000) (hx : -1 ≤ x ∧ x < P.length) (r : Bool) (hr : underB P o x = r) (W : World) (h : V1 S W (.slice pa P.length pc) P) :
  Calls Tryz.prog 165 #[.agg #[.slice pa P.length pc, .slice da dn dc], .int .i64 x, .int .i64 o] W fun e w' => e = .returned (.bool r) ∧ Below W.heap.size W w' := by
 obtain ⟨W1, hW1, hB01, hz01, HZ01, hc01, hh01⟩ := box_facts W #[.slice pa P.length pc, .slice da dn dc] 163
 have hV := h.below hB01
 have HL := Lib.hid (And.intro hV (And.intro hB01 (And.intro hP (And.intro hW1 hr)))); clear hV hB01 hP h hh01 hr
 go_enter Tryz.func165, Tryz.ntmps165
 go_wp2_with fail
 rw [← HL.out.2.2.2.1]
 clear hW1
 go_loopw [1] (fun xv wr => ∃ y : Int, xv = .int .i64 y ∧ (-1 ≤ y ∧ y < P.length) ∧ (Under P o x ↔ Under P o y) ∧ wr = W1) (fun xv _ => (intOf xv + 1).toNat)
 case atStart => exact ⟨x, rfl, hx, Iff.rfl, rfl⟩
 case round =>
  obtain ⟨y, rfl, ⟨hy0, hy1⟩, hyo, rfl⟩ := hrel
  have HR := Lib.hid hyo; clear hyo
  by_cases hy : 0 ≤ y
  ·have hd : decide (0 ≤ y) = true := decide_eq_true hy
   by_cases hyo2 : y = o
   ·subst hyo2
    have hu := underB_t (HR.out.2 (under_self hy))
    rw [HL.out.2.2.2.2] at hu
    subst hu
    go_wp2_with fail
    go_ret
    exact ⟨rfl, HL.out.2.1⟩
   ·have hd2 : (y == o) = false := by simp [hyo2]
    obtain ⟨k, rfl⟩ : ∃ k : Nat, y = (k : Int) := ⟨y.toNat, by omega⟩
    have hk : k < P.length := by omega
    obtain ⟨pb, po, rfl, _, hcell⟩ := HL.out.1.cell hk
    have HK := Lib.hid (And.intro (HL.out.2.2.1 k hk) hyo2); clear hyo2
    go_wp2_with fail
    go_roundw
    case rel => exact ⟨geti P k, rfl, ⟨HK.out.1.1, by have := HK.out.1.2.1; omega⟩, HR.out.trans (by have := under_step (P := P) (o := o) (x := (k : Int)) hy HK.out.2; simpa using this), trivial⟩
    case measure => have := HK.out.1; simp [intOf]; omega
  ·have hd : decide (0 ≤ y) = false := decide_eq_false hy
   have hy1 : y = -1 := by omega
   subst hy1
   have hu := underB_f (fun h => under_neg (HR.out.1 h))
   rw [HL.out.2.2.2.2] at hu
   subst hu
   go_wp2_with fail
   go_ret
   exact ⟨rfl, HL.out.2.1⟩
noncomputable def mayB (P ns : List Int) (d : Int) : Bool := ns.any fun q => underB P q d
theorem mayB_step {P ns : List Int} {d : Int} {k : Nat} (hk : k < ns.length) : mayB P (ns.drop k) d = (underB P (geti ns k) d || mayB P (ns.drop (k + 1)) d) := by
 unfold mayB
 rw [List.drop_eq_getElem_cons hk, List.any_cons, geti_eq hk]
set_option maxRecDepth 100000 in
set_option maxHeartbeats 2000000 in
theorem l10May_f {S S2 : Nat → Prop} (P ns : List Int) (pa da : Option Addr) (pc dn dc : Nat) (nv : Value) (d : Int) (hP : Par P) (hl : P.length ≤ 1000) (hx : -1 ≤ d ∧ d < P.length) (hn : ns.length ≤ 1000) (r : Bool) (hr : mayB P ns d = r) (W : World) (h : V1 S W (.slice pa P.length pc) P) (h2 : V1 S2 W nv ns) :
  Calls Tryz.prog 151 #[.agg #[.slice pa P.length pc, .slice da dn dc], nv, .int .i64 d] W fun e w' => e = .returned (.bool r) ∧ Below W.heap.size W w' := by
 obtain ⟨na, nc, rfl, _⟩ := h2.form
 obtain ⟨W1, hW1, hB01, hz01, HZ01, hc01, hh01⟩ := box_facts W #[.slice pa P.length pc, .slice da dn dc] 163
 have hV := h.below hB01
 have hV2 := h2.below hB01
 have HL := Lib.hid (And.intro hV (And.intro hV2 (And.intro hB01 (And.intro hP (And.intro hW1 hr))))); clear hV hV2 hB01 hP h h2 hh01 hr
 go_enter Tryz.func151, Tryz.ntmps151
 go_wp2_with fail
 rw [← HL.out.2.2.2.2.1]
 have Hc01 := Lib.hid hc01; clear hc01 hW1
 go_loopw [7] (fun i wr => ∃ k : Nat, k ≤ ns.length ∧ i = .int .i64 (k : Int) ∧ mayB P ns d = mayB P (ns.drop k) d ∧ Below W1.heap.size W1 wr) (fun i _ => ns.length - (intOf i).toNat)
 case atStart => exact ⟨0, Nat.zero_le _, rfl, rfl, Below.refl _ _⟩
 case round =>
  obtain ⟨k, hk, rfl, hrem, hB⟩ := hrel
  have Hr := Lib.hid hrem; clear hrem
  have hzr := hB.size
  have hx' : ∀ o, wr.cell? ⟨W.heap.size, o, none⟩ = (#[.slice pa P.length pc, .slice da dn dc] : Array Value)[o]? := fun o => by rw [(bcell hB).1 _ _ hz01, Hc01.out]
  by_cases hkk : k < ns.length
  ·obtain ⟨b1, off1, rfl, _, hc1⟩ := (HL.out.2.1.below hB).cell hkk
   have hbb : W.heap.size < wr.heap.size ∧ b1 < wr.heap.size := ⟨by omega, lt_of_cell hc1⟩
   have hVr := HL.out.1.below hB
   have HVr := Lib.hid hVr; clear hVr
   obtain ⟨u, hu⟩ : ∃ u, underB P (geti ns k) d = u := ⟨_, rfl⟩
   have HU := Lib.hid hu; clear hu
   obtain ⟨y, hy⟩ : ∃ y, geti ns k = y := ⟨_, rfl⟩
   rw [hy] at hc1
   have HY := Lib.hid hy; clear hy
   cases u
   ·
    go_wp2_with fail
    go_region_held3 (fun w' => (∀ o, w'.cell? ⟨W.heap.size, o, none⟩ = (#[.slice pa P.length pc, .slice da dn dc] : Array Value)[o]?) ∧ w'.cell? ⟨b1, off1 + k, none⟩ = some (.int .i64 y) ∧ Below wr.heap.size wr w')
     (first | exact one1_keep hbb (by assumption) (by assumption) | exact ⟨hx', hc1, (Below.refl _ _).drew⟩)
     (first | (go_at_call 165; refine (l09Under_f P _ _ _ _ _ d y HL.out.2.2.2.1 hl hx false (by rw [← HY.out]; exact HU.out) _ (HVr.out.below (one1_below (by assumption)))).mono ?_; rintro e' w' ⟨rfl, hb⟩))
    have hBw := one1_below (w0 := wr) (by assumption)
    go_wp2_with fail
    go_roundw
    case rel => exact ⟨k + 1, by omega, by go_num, by rw [Hr.out, mayB_step hkk, HU.out]; rfl, hB.trans (hBw.mono hzr)⟩
    case measure => simp [intOf]; omega
   ·
    go_wp2_with fail
    go_region_held3 (fun w' => (∀ o, w'.cell? ⟨W.heap.size, o, none⟩ = (#[.slice pa P.length pc, .slice da dn dc] : Array Value)[o]?) ∧ w'.cell? ⟨b1, off1 + k, none⟩ = some (.int .i64 y) ∧ Below wr.heap.size wr w')
     (first | exact one1_keep hbb (by assumption) (by assumption) | exact ⟨hx', hc1, (Below.refl _ _).drew⟩)
     (first | (go_at_call 165; refine (l09Under_f P _ _ _ _ _ d y HL.out.2.2.2.1 hl hx true (by rw [← HY.out]; exact HU.out) _ (HVr.out.below (one1_below (by assumption)))).mono ?_; rintro e' w' ⟨rfl, hb⟩))
    have hBw := one1_below (w0 := wr) (by assumption)
    go_wp2_with fail
    go_ret
    exact ⟨ret_bool (by rw [← HL.out.2.2.2.2.2, Hr.out, mayB_step hkk, HU.out]; rfl), HL.out.2.2.1.trans ((hB.trans (hBw.mono hzr)).mono (by omega))⟩
  ·have hd : ns.drop k = [] := List.drop_of_length_le (by omega)
   have Hd := Lib.hid hd; clear hd
   go_wp2_with fail
   go_ret
   exact ⟨ret_bool (by rw [← HL.out.2.2.2.2.2, Hr.out, Hd.out]; simp [mayB]), HL.out.2.2.1.trans (hB.mono (by omega))⟩
/-- Numbers of nodes. -/
def Nodes (n : Nat) (ds : List Int) : Prop := ∀ j, j < ds.length → 0 ≤ geti ds j ∧ geti ds j < n
theorem Nodes.snoc {n : Nat} {ds : List Int} {x : Int} (h : Nodes n ds) (h0 : 0 ≤ x) (h1 : x < n) : Nodes n (ds ++ [x]) := fun j hj => by
 by_cases hjl : j < ds.length
 ·rw [geti_append hjl]; exact h j hjl
 ·have e : j = ds.length := by simp at hj; omega
  subst e; rw [geti_snoc]; exact ⟨h0, h1⟩
set_option maxRecDepth 100000 in
set_option maxHeartbeats 2000000 in
theorem l09Doors_any {S S2 : Nat → Prop} (P : List Int) (D : List Bool) (pa da : Option Addr) (pc dc : Nat) (hB : Bld P D) (W : World) (h : V1 S W (.slice pa P.length pc) P) (h2 : VBo S2 W (.slice da D.length dc) D) :
  Calls Tryz.prog 150 #[.agg #[.slice pa P.length pc, .slice da D.length dc], .int .i64 0] W fun e w' => ∃ v ds, e = .returned v ∧ (F1 W.heap.size w' v ds ∧ (1 ≤ ds.length ∧ ds.length ≤ P.length) ∧ Nodes P.length ds) ∧ Below W.heap.size W w' := by
 obtain ⟨⟨hn2, hn10⟩, hDP, hPar, hlast⟩ := hB
 obtain ⟨W1, hW1, hB01, hz01, HZ01, hc01, hh01⟩ := box_facts W #[.slice pa P.length pc, .slice da D.length dc] 163
 have hbL : Below W1.heap.size W1 (W1.alloc (.cells #[] 2)) := (Below.refl _ _).alloc (Nat.le_refl _) _
 have hz1e := HZ01.out
 have hown0 : (W1.alloc (.cells #[] 2)).ownsRow (W.heap.size + 1) 2 1 (.slice (some ⟨W.heap.size + 1, 0, none⟩) 0 0) 0 [] := by
  have hown0 := own_lit0 W1 (W.heap.size + 1) 2 1 (by omega)
  rw [← hz1e] at hown0 ⊢; exact hown0
 have hBL := hB01.trans (hbL.mono (by omega))
 have HL := Lib.hid (And.intro (h.below hB01) (And.intro (h2.below hB01) (And.intro hown0 (And.intro hBL (And.intro ((hbL.block _ hz01).trans hh01) (And.intro hPar (And.intro hlast (And.intro hDP (And.intro h h2))))))))); clear hown0 hbL hBL hh01 hz1e hPar hlast h h2 hDP
 go_enter Tryz.func150, Tryz.ntmps150
 go_wp2_with fail
 rw [← hW1]
 clear hc01 hW1 hB01
 go_loopw [5, 6] (fun cv i wr => ∃ (k : Nat) (ds : List Int), k ≤ D.length ∧ i = .int .i64 (k : Int) ∧ ds.length ≤ k ∧ (k = D.length → 1 ≤ ds.length) ∧ Nodes P.length ds ∧ wr.ownsRow (W.heap.size + 1) 2 1 cv ds.length (ds.map (Value.int .i64)) ∧ Below W.heap.size W wr ∧ wr.heap[W.heap.size]? = some (.cells #[.slice pa P.length pc, .slice da D.length dc] 163 (0, 0))) (fun _ i _ => D.length - (intOf i).toNat)
 case atStart => exact ⟨0, [], Nat.zero_le _, rfl, Nat.le_refl _, fun e => by have := HL.out.2.2.2.2.2.2.2.1; omega, fun j hj => by simp at hj, HL.out.2.2.1, HL.out.2.2.2.1, HL.out.2.2.2.2.1⟩
 case round =>
  obtain ⟨k, ds, hkD, rfl, hdk, hd1, hnod, hown, hBW, hbox⟩ := hrel
  have hzrb : W.heap.size + 1 ≤ wr.heap.size := lt_of_heap hbox
  have hc : ∀ o, wr.cell? ⟨W.heap.size, o, none⟩ = (#[.slice pa P.length pc, .slice da D.length dc] : Array Value)[o]? := fun o => by rw [cell_of_block hbox]
  obtain ⟨oa, oc, rfl, _, _⟩ := own_form hown
  obtain ⟨wo, rfl⟩ : ∃ x, x = wr := ⟨_, rfl⟩
  by_cases hkk : (k : Int) < (D.length : Int)
  ·have hd : decide (k < D.length) = true := decide_eq_true (by omega)
   have hVD : VBo (fun b => b < W.heap.size) wo (.slice da D.length dc) D := HL.out.2.2.2.2.2.2.2.2.2.mono (fun b _ h => h) (Below.keep hBW fun b _ h => h)
   have hVP : V1 (fun b => b < W.heap.size) wo (.slice pa P.length pc) P := HL.out.2.2.2.2.2.2.2.2.1.mono (fun b _ h => h) (Below.keep hBW fun b _ h => h)
   obtain ⟨db, dof, rfl, _, hdc⟩ := hVD.cell (k := k) (by omega)
   have hkP : k < P.length := by have := HL.out.2.2.2.2.2.2.2.1; omega
   obtain ⟨u, hu⟩ : ∃ u, geb D k = u := ⟨_, rfl⟩
   rw [hu] at hdc
   have HR := Lib.hid (And.intro hdk (And.intro hnod (And.intro hown (And.intro hBW (And.intro hbox (And.intro hVP hu)))))); clear hdk hd1 hnod hown hBW hbox hVP hVD hu
   cases u
   ·go_wp2_with fail
    go_roundw
    case rel =>
     have hne : ¬ k + 1 = D.length := fun e => by
      have h1 := HL.out.2.2.2.2.2.2.1
      have h2 := HL.out.2.2.2.2.2.2.2.1
      rw [show P.length - 1 = k by omega, HR.out.2.2.2.2.2.2] at h1
      cases h1
     exact ⟨k + 1, ds, by omega, by go_num, by have := HR.out.1; omega, fun e => absurd e hne, HR.out.2.1, HR.out.2.2.1, HR.out.2.2.2.1, HR.out.2.2.2.2.1⟩
    case measure => simp [intOf]; omega
   ·go_wp2_with fail
    refine (l09Under_f P _ _ _ _ _ (k : Int) 0 HL.out.2.2.2.2.2.1 (by omega) ⟨by omega, by omega⟩ true (underB_t (under_root HL.out.2.2.2.2.2.1 _ k (Nat.le_refl _) hkP)) _ HR.out.2.2.2.2.2.1).mono ?_
    rintro e' w3 ⟨rfl, hb3⟩
    have hown3 := own_keep HR.out.2.2.1 hb3
    have hbx3 := (hb3.block _ (lt_of_heap HR.out.2.2.2.2.1)).trans HR.out.2.2.2.2.1
    have hz3 := hb3.size
    have hBW3 := HR.out.2.2.2.1.trans (hb3.mono (by omega))
    have hl9 : ds.length ≤ 1000 := by have := HR.out.1; omega
    have H3 := Lib.hid (And.intro hbx3 hBW3); clear hbx3 hBW3 hb3 hc
    go_wp2_with (at_builtin; refine wp_app1 _ rfl _ _ 57 rfl (W.heap.size + 1) 2 (.int .i64 0) 8 Tryz.underlying57 inf_int rfl _ _ _ rfl hown3 (.int .i64 (k : Int)) _ rfl rfl (by omega) (by omega) (by omega) ?_; intro v1 w1 hown1 hgrow1 hblk1 hB1)
    have hown4 := own_ints (v := .slice none 0 0) hown1
    have hbx1 := (hgrow1.block _ (lt_of_heap H3.out.1) (fun e => by have := (hown3.lt _ e.symm).1; omega)).trans H3.out.1
    have hBW1 := H3.out.2.trans (hB1.mono (by omega))
    have H4 := Lib.hid (And.intro hown4 (And.intro hBW1 hbx1)); clear hown4 hBW1 hbx1 hgrow1 hblk1 hB1 hown1 hown3
    go_roundw
    case rel => exact ⟨k + 1, ds ++ [(k : Int)], by omega, by go_num, by have := HR.out.1; simp; omega, fun e => by simp, HR.out.2.1.snoc (by omega) (by omega), H4.out.1, H4.out.2.1, H4.out.2.2⟩
    case measure => simp [intOf]; omega
  ·have hd : decide (k < D.length) = false := decide_eq_false (by omega)
   have hd1 := hd1 (by omega)
   have HR := Lib.hid (And.intro hdk (And.intro hnod (And.intro hown (And.intro hBW hd1)))); clear hdk hd1 hnod hown hBW
   go_wp2_with fail
   go_ret
   exact ⟨_, rfl, ⟨ds, (own_F1 HR.out.2.2.1).mono (by omega), ⟨HR.out.2.2.2.2, by have := HR.out.1; have := HL.out.2.2.2.2.2.2.2.1; omega⟩, HR.out.2.1⟩, HR.out.2.2.2.1⟩
set_option maxRecDepth 100000 in
set_option maxHeartbeats 2000000 in
theorem l10DrawNodes_any (B0 SB n : Nat) (pa da : Option Addr) (pc dn dc : Nat) (hn : 1 ≤ n ∧ n ≤ 900) (W : World) (h : Src B0 SB W) :
  Calls Tryz.prog 153 #[.pointer (some ⟨SB, 0, none⟩), .agg #[.slice pa n pc, .slice da dn dc]] W fun e w' => ∃ v ds, e = .returned v ∧ (F1 W.heap.size w' v ds ∧ (1 ≤ ds.length ∧ ds.length ≤ n) ∧ Nodes n ds) ∧ Src B0 SB w' ∧ Only SB W w' := by
 have hSl := h.lt
 have hB0 : B0 ≤ SB := h.1
 obtain ⟨hn1, hn9⟩ := hn
 obtain ⟨W1, hW1, hB01, hz01, HZ01, hc01, hh01⟩ := box_facts W #[.slice pa n pc, .slice da dn dc] 163
 have hs1' := h.below hB01
 have hbL : Below W1.heap.size W1 (W1.alloc (.cells #[] 2)) := (Below.refl _ _).alloc (Nat.le_refl _) _
 have hz1e := HZ01.out
 have hown0 : (W1.alloc (.cells #[] 2)).ownsRow (W.heap.size + 1) 2 1 (.slice (some ⟨W.heap.size + 1, 0, none⟩) 0 0) 0 [] := by
  have hown0 := own_lit0 W1 (W.heap.size + 1) 2 1 (by omega)
  rw [← hz1e] at hown0 ⊢; exact hown0
 have HL := Lib.hid (And.intro (hs1'.below hbL) (And.intro hown0 (And.intro ((Only.of_below (SB := SB) hB01).then_below hbL) ((hbL.block _ hz01).trans hh01)))); clear hbL hs1' h hh01 hz1e hown0
 go_enter Tryz.func153, Tryz.ntmps153
 go_wp2_with fail
 rw [← hW1]
 clear hc01 hW1 hB01
 go_loopw [5, 6] (fun cv i wr => ∃ (k : Nat) (ds : List Int), k ≤ n ∧ i = .int .i64 (k : Int) ∧ ds.length ≤ k ∧ Nodes n ds ∧ wr.ownsRow (W.heap.size + 1) 2 1 cv ds.length (ds.map (Value.int .i64)) ∧ Src B0 SB wr ∧ Only SB W wr ∧ wr.heap[W.heap.size]? = some (.cells #[.slice pa n pc, .slice da dn dc] 163 (0, 0))) (fun _ i _ => n - (intOf i).toNat)
 case atStart => exact ⟨0, [], Nat.zero_le _, rfl, Nat.le_refl _, fun j hj => by simp at hj, HL.out.2.1, HL.out.1, HL.out.2.2.1, HL.out.2.2.2⟩
 case round =>
  obtain ⟨k, ds, hkD, rfl, hdk, hnod, hown, hsr, hoW, hbox⟩ := hrel
  have hzrb : W.heap.size + 1 ≤ wr.heap.size := lt_of_heap hbox
  have hc : ∀ o, wr.cell? ⟨W.heap.size, o, none⟩ = (#[.slice pa n pc, .slice da dn dc] : Array Value)[o]? := fun o => by rw [cell_of_block hbox]
  obtain ⟨oa, oc, rfl, _, _⟩ := own_form hown
  obtain ⟨wo, rfl⟩ : ∃ x, x = wr := ⟨_, rfl⟩
  have HR := Lib.hid (And.intro hdk (And.intro hnod (And.intro hown (And.intro hsr (And.intro hoW hbox))))); clear hdk hnod hown hsr hoW hbox
  by_cases hkk : (k : Int) < (n : Int)
  ·have hd : decide (k < n) = true := decide_eq_true (by omega)
   go_wp2_with fail
   refine (l01Next_any B0 SB 4 _ HR.out.2.2.2.1).mono ?_
   rintro e' w3 ⟨x, rfl, ⟨hx0, hx1⟩, hs3, ho3⟩
   have hown3 := own_only HR.out.2.2.1 ho3 (by omega)
   have hbx3 := ho3.heap HR.out.2.2.2.2.2 (fun e => by omega)
   have hz3 := ho3.size
   have ho3W := HR.out.2.2.2.2.1.trans ho3
   have hl9 : ds.length ≤ 1000 := by have := HR.out.1; omega
   by_cases hx : x = 0
   ·subst hx
    have H3 := Lib.hid (And.intro hs3 (And.intro ho3W hbx3)); clear hs3 ho3 ho3W hbx3 hc
    go_wp2_with (at_builtin; refine wp_app1 _ rfl _ _ 57 rfl (W.heap.size + 1) 2 (.int .i64 0) 8 Tryz.underlying57 inf_int rfl _ _ _ rfl hown3 (.int .i64 (k : Int)) _ rfl rfl (by omega) (by omega) (by omega) ?_; intro v1 w1 hown1 hgrow1 hblk1 hB1)
    have hown4 := own_ints (v := .slice none 0 0) hown1
    have hg1 : Chg (fun i => W.heap.size + 1 ≤ i) w3 w1 := (Chg.refl _ _).grown hgrow1 (fun g hg => .inl (hown3.lt g hg).1)
    have hs1 := H3.out.1.keep hg1 (fun b hb => ⟨by omega, by omega⟩)
    have hoW1 : Only SB W w1 := Chg.trans H3.out.2.1 (G := fun i => W.heap.size + 1 ≤ i) hg1 (fun i hi => .inr (by omega))
    have hbx1 := hg1.heap H3.out.2.2 (fun e => by omega)
    have H4 := Lib.hid (And.intro hown4 (And.intro hs1 (And.intro hoW1 hbx1))); clear hown4 hs1 hoW1 hbx1 hg1 hgrow1 hblk1 hB1 hown1 hown3
    go_roundw
    case rel => exact ⟨k + 1, ds ++ [(k : Int)], by omega, by go_num, by have := HR.out.1; simp; omega, HR.out.2.1.snoc (by omega) (by omega), H4.out.1, H4.out.2.1, H4.out.2.2.1, H4.out.2.2.2⟩
    case measure => simp [intOf]; omega
   ·have hx0d : (x == 0) = false := by simp [hx]
    have H3 := Lib.hid (And.intro hs3 (And.intro ho3W (And.intro hbx3 hown3))); clear hs3 ho3 ho3W hbx3 hc hown3 hx
    go_wp2_with fail
    go_roundw
    case rel => exact ⟨k + 1, ds, by omega, by go_num, by have := HR.out.1; omega, HR.out.2.1, H3.out.2.2.2, H3.out.1, H3.out.2.1, H3.out.2.2.1⟩
    case measure => simp [intOf]; omega
  ·have hd : decide (k < n) = false := decide_eq_false (by omega)
   by_cases hz : ds.length = 0
   ·have hds : ds = [] := List.eq_nil_of_length_eq_zero hz
    subst hds
    clear hz
    go_wp2_with fail
    refine (l01Next_any B0 SB _ _ HR.out.2.2.2.1).mono ?_
    rintro e' w3 ⟨x, rfl, ⟨hx0, hx1⟩, hs3, ho3⟩
    have hown3 : w3.ownsRow (W.heap.size + 1) 2 1 (.slice oa 0 oc) 0 [] := own_only HR.out.2.2.1 ho3 (by omega)
    have hz3 := ho3.size
    have ho3W := HR.out.2.2.2.2.1.trans ho3
    have H3 := Lib.hid (And.intro hs3 ho3W); clear hs3 ho3 ho3W hc
    go_wp2_with (at_builtin; refine wp_app1 _ rfl _ _ 57 rfl (W.heap.size + 1) 2 (.int .i64 0) 8 Tryz.underlying57 inf_int rfl _ _ _ rfl hown3 (.int .i64 x) _ rfl rfl (by omega) (by omega) (by omega) ?_; intro v1 w1 hown1 hgrow1 hblk1 hB1)
    have hown4 := own_ints (v := .slice none 0 0) (l := []) hown1
    have hg1 : Chg (fun i => W.heap.size + 1 ≤ i) w3 w1 := (Chg.refl _ _).grown hgrow1 (fun g hg => .inl (hown3.lt g hg).1)
    have hs1 := H3.out.1.keep hg1 (fun b hb => ⟨by omega, by omega⟩)
    have hoW1 : Only SB W w1 := Chg.trans H3.out.2 (G := fun i => W.heap.size + 1 ≤ i) hg1 (fun i hi => .inr (by omega))
    have H4 := Lib.hid (And.intro hown4 (And.intro hs1 hoW1)); clear hown4 hs1 hoW1 hg1 hgrow1 hblk1 hB1 hown1 hown3
    go_wp2_with fail
    go_ret
    exact ⟨_, [] ++ [x], rfl, ⟨(own_F1 H4.out.1).mono (by omega), ⟨by simp, by simpa using hn1⟩, (show Nodes n [] from fun j hj => by simp at hj).snoc hx0 (by omega)⟩, H4.out.2.1, H4.out.2.2⟩
   ·have hz1 : 1 ≤ ds.length := by omega
    have hzd : ((ds.length : Int) == 0) = false := by rw [beq_eq_false_iff_ne]; omega
    have HZ := Lib.hid hz1; clear hz hz1
    go_wp2_with fail
    go_ret
    exact ⟨_, rfl, ⟨ds, (own_F1 HR.out.2.2.1).mono (by omega), ⟨HZ.out, by have := HR.out.1; omega⟩, HR.out.2.1⟩, HR.out.2.2.2.1, HR.out.2.2.2.2.1⟩
end Go.Proofs.YtbekpololmahoaaGreatDoor
