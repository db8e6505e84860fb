/- The program's search for designs: one visit. No conditions. -/
import Derived.Test.YtmjplkbmhdkggaaGreatMStay
import Derived.Test.YtmjplkbmhdkggaaGreatStayO
import Derived.Test.YtmjplkbmhdkggaaGreatMShelf0
import Derived.Test.YtmjplkbmhdkggaaGreatMDraw23
namespace Go.Proofs.YtmjplkbmhdkggaaGreat
open Go.RowKit
set_option linter.unusedVariables false
set_option linter.unusedSimpArgs false
def goCells (m : Mk) (tv : Value) (limit tries : Nat) (br : Bool) (fv : Value) : Array Value := #[.int .i64 m.c, .int .i64 m.d, .int .i64 m.s, .int .i64 m.e, .int .i64 m.l, tv, .int .i64 (limit : Int), .int .i64 (tries : Int), .bool br, fv]
/-- What is done with each design. -/
structure VisG {τ : Type} (act : τ → Prop) (P : List (List Int) → Prop) (f : FuncId) (caps : Array Value) (vis : τ → List (List Int) → τ × Bool) (VI : τ → (Nat → Prop) → World → Prop) : Prop where
 enters : Enters f
 keep : ∀ s F w w', VI s F w → w.heap.size ≤ w'.heap.size → (∀ b, F b → w'.heap[b]? = w.heap[b]?) → VI s F w'
 lt : ∀ s F w, VI s F w → ∀ b, F b → b < w.heap.size
 still : ∀ s design, act s → (vis s design).2 = true → act (vis s design).1
 call : ∀ (s : τ) (F S : Nat → Prop) (w : World) (v : Value) (design : List (List Int)), VI s F w → V2 S w v design → (∀ b, S b → ¬ F b) → P design → act s →
  Calls Tryz.prog f (#[v] ++ caps) w fun e w' => ∃ F', e = .returned (.bool (vis s design).2) ∧ VI (vis s design).1 F' w' ∧ Chg F w w' ∧ ∀ b, F' b → F b ∨ w.heap.size ≤ b
def GF (XB : Nat) (F : Nat → Prop) (b : Nat) : Prop := b = XB ∨ F b
structure Gs {τ : Type} (m : Mk) (tv : Value) (limit : Nat) (fv : Value) (XB : Nat) (VI : τ → (Nat → Prop) → World → Prop) (s : GSt τ) (F : Nat → Prop) (w : World) : Prop where
 hh : w.heap[XB]? = some (.cells (goCells m tv limit s.1 s.2.1 fv) 124 (0, 0))
 vi : VI s.2.2 F w
 ne : ¬ F XB
 lt : ∀ b, F b → b < w.heap.size
 le : s.1 ≤ limit ∧ limit ≤ 4000
section
variable {τ : Type} {act : τ → Prop} {m : Mk} {tv fv : Value} {limit XB : Nat} {VI : τ → (Nat → Prop) → World → Prop} {s : GSt τ} {F : Nat → Prop} {w w' : World} {P : List (List Int) → Prop} {f : FuncId} {caps : Array Value} {vis : τ → List (List Int) → τ × Bool}
theorem Gs.keep (V : VisG act P f caps vis VI) (h : Gs m tv limit fv XB VI s F w) (hz : w.heap.size ≤ w'.heap.size) (hk : ∀ b, GF XB F b → w'.heap[b]? = w.heap[b]?) : Gs m tv limit fv XB VI s F w' :=
 ⟨by rw [hk XB (.inl rfl)]; exact h.hh, V.keep _ _ _ _ h.vi hz (fun b hb => hk b (.inr hb)), h.ne, fun b hb => Nat.lt_of_lt_of_le (h.lt b hb) hz, h.le⟩
theorem Gs.glt (h : Gs m tv limit fv XB VI s F w) {b : Nat} (hb : GF XB F b) : b < w.heap.size := by
 rcases hb with rfl | hb
 ·exact lt_of_heap h.hh
 ·exact h.lt b hb
theorem Gs.below (V : VisG act P f caps vis VI) (h : Gs m tv limit fv XB VI s F w) (hb : Below w.heap.size w w') : Gs m tv limit fv XB VI s F w' := h.keep V hb.size fun b hf => hb.block b (h.glt hf)
theorem Gs.cell (h : Gs m tv limit fv XB VI s F w) (o : Nat) : w.cell? ⟨XB, o, none⟩ = (goCells m tv limit s.1 s.2.1 fv)[o]? := by rw [cell_of_block h.hh]
end
def GoPost {τ : Type} (m : Mk) (tv : Value) (limit : Nat) (fv : Value) (XB : Nat) (VI : τ → (Nat → Prop) → World → Prop) (F : Nat → Prop) (W : World) (r : GSt τ × Bool) (e : Ending) (w' : World) : Prop :=
 ∃ F', e = .returned (.bool r.2) ∧ Gs m tv limit fv XB VI r.1 F' w' ∧ Chg (GF XB F) W w' ∧ ∀ b, GF XB F' b → GF XB F b ∨ W.heap.size ≤ b
structure GoAsk {τ : Type} (act : τ → Prop) (m : Mk) (t : List (List Int)) (n : Nat) (tv : Value) (limit : Nat) (fv : Value) (XB : Nat) (VI : τ → (Nat → Prop) → World → Prop) (cuts : List (List Int)) (cv : Value) (s : GSt τ) (F : Nat → Prop) (W : World) : Prop where
 gs : Gs m tv limit fv XB VI s F W
 ht : V2 (fun b => ¬ GF XB F b) W tv t
 hc : V2 (fun b => ¬ GF XB F b) W cv cuts
 hp : cuts = [] → PV cv
 ok : PartOk m t cuts
 op : falseL n t cuts = []
 ac : act s.2.2
def GoAny {τ : Type} (act : τ → Prop) (m : Mk) (t : List (List Int)) (n : Nat) (tv : Value) (limit : Nat) (fv : Value) (XB : Nat) (VI : τ → (Nat → Prop) → World → Prop) (vis : τ → List (List Int) → τ × Bool) (d : Nat) : Prop :=
 ∀ (cuts : List (List Int)) (cv : Value) (s : GSt τ) (F : Nat → Prop) (W : World), cuts.length + d = t.length → GoAsk act m t n tv limit fv XB VI cuts cv s F W →
   Calls Tryz.prog 162 #[.pointer (some ⟨XB, 0, none⟩), cv, .slice none 0 0] W (GoPost m tv limit fv XB VI F W (goF limit (stayP n t) vis (keysOf m) d cuts s))
/-- What a visit of the search leaves. -/
def G1Post {τ : Type} (m : Mk) (tv : Value) (limit : Nat) (fv : Value) (XB MB : Nat) (VI : τ → (Nat → Prop) → World → Prop) (F : Nat → Prop) (w : World) (r : GSt τ × Bool) (e : Ending) (w' : World) : Prop :=
 ∃ F', e = .returned (.bool r.2) ∧ Gs m tv limit fv XB VI r.1 F' w' ∧ w'.heap[MB]? = some (.cells #[.bool r.2] 4 (0, 0)) ∧ Chg (fun b => GF XB F b ∨ b = MB) w w' ∧ ∀ b, GF XB F' b → GF XB F b ∨ w.heap.size ≤ b
theorem go_row {Far : Nat → Prop} {wx w4 : World} {B B0 : Nat} {e : TypeId} {v v4 kv : Value} {vs : List Value} {cuts : List (List Int)} {key : List Int} {nn : Nat} (hn : nn = cuts.length + 1) (hown : w4.ownsRow B e 1 v4 nn (vs ++ [kv])) (hrow : RowVs Far wx vs cuts) (hkey : V1 (fun b => B0 ≤ b ∧ v.ownBlock ≠ some b) wx kv key)
  (hgrow : wx.grownBy w4 v.ownBlock) (hFar : ∀ b, Far b → v.ownBlock ≠ some b) (hB : B0 ≤ B) : V2 (fun b => Far b ∨ B0 ≤ b) w4 v4 (cuts ++ [key]) := by
 have h1 : RowVs (fun b => Far b ∨ B0 ≤ b) w4 vs cuts := ⟨hrow.1, fun k hk => by
  obtain ⟨ev, g1, g2⟩ := hrow.2 k hk
  exact ⟨ev, g1, g2.mono (fun b hb _ => .inl hb) (grow_keep hgrow (fun g hg hS => hFar g hS hg))⟩⟩
 have h2 : V1 (fun b => Far b ∨ B0 ≤ b) w4 kv key := hkey.mono (fun b hb _ => .inr hb.1) (grow_keep hgrow (fun g hg hS => hS.2 hg))
 exact (own_V2S hown (h1.snoc h2)).mono (fun b hb _ => by rcases hb with hb | hb; exact hb; exact .inr (Nat.le_trans hB hb)) (fun _ _ _ => rfl)
set_option maxRecDepth 100000 in
set_option maxHeartbeats 2000000 in
theorem go1_any {τ : Type} {act : τ → Prop} {S Far : Nat → Prop} {P : List (List Int) → Prop} {vf : FuncId} {vcaps : Array Value} {vis : τ → List (List Int) → τ × Bool} {VI : τ → (Nat → Prop) → World → Prop} (V : VisG act P vf vcaps vis VI)
  (m : Mk) (t : List (List Int)) (n : Nat) (hn : (n : Int) = m.c) (limit : Nat) (tv cv kv fv : Value) (XB MB FRB XPB STB CB LB RB CB2 SB d : Nat) (cuts : List (List Int)) (key : List Int) (s : GSt τ) (F : Nat → Prop) (w : World)
  (hp : PartOk m t cuts) (hl : cuts.length < t.length) (hcd : cuts.length + (d + 1) = t.length) (hop : falseL n t cuts = []) (hact : act s.2.2) (IH : GoAny act m t n tv limit fv XB VI vis d)
  (hG : Gs m tv limit fv XB VI s F w) (hM : w.heap[MB]? = some (.cells #[.bool true] 4 (0, 0))) (hMn : ¬ GF XB F MB) (hfar : ∀ b, Far b → ¬ GF XB F b ∧ b ≠ MB ∧ b < w.heap.size)
  (h1 : w.cell? ⟨FRB, 0, none⟩ = some (.slice none 0 0)) (f1 : Far FRB) (h2 : w.cell? ⟨XPB, 0, none⟩ = some (.pointer (some ⟨XB, 0, none⟩))) (f2 : Far XPB)
  (h4 : w.cell? ⟨STB, 0, none⟩ = some (.func (.func 216) #[] #[.pointer (some ⟨LB, 0, none⟩), .pointer (some ⟨RB, 0, none⟩), .pointer (some ⟨CB2, 0, none⟩), .pointer (some ⟨SB, 0, none⟩)])) (f4 : Far STB)
  (h5 : w.cell? ⟨CB, 0, none⟩ = some cv) (f5 : Far CB) (hst : StayAt Far m t cuts (locksTo n t cuts (getl t 0).length) LB RB CB2 SB w)
  (ht : V2 Far w tv t) (hc : V2 Far w cv cuts) (hcp : cuts = [] → PV cv) (hk : V1 S w kv key) (hkS : ∀ b, S b → ¬ GF XB F b ∧ b ≠ MB) (hkey : isKeyB m key = true) :
  Calls Tryz.prog 190 #[kv, .pointer (some ⟨FRB, 0, none⟩), .pointer (some ⟨XPB, 0, none⟩), .pointer (some ⟨MB, 0, none⟩), .pointer (some ⟨STB, 0, none⟩), .pointer (some ⟨CB, 0, none⟩)] w
   (G1Post m tv limit fv XB MB VI F w (goStep limit (stayP n t) (goF limit (stayP n t) vis (keysOf m) d) cuts s key)) := by
 obtain ⟨iC, hiC, hzC0, hzC1, hzC2⟩ := info_parts inf_ints
 have hNil := neqNilS
 have hdr : ∀ u : World, u.drew.heap = u.heap := fun _ => rfl
 obtain ⟨ta, tc, rfl, htm⟩ := ht.form
 obtain ⟨ca, cc, rfl, hcm⟩ := hc.form
 obtain ⟨ka, kc, rfl, hkm⟩ := hk.form
 have hr := hG.cell
 have c6 : w.cell? ⟨XB, 6, none⟩ = some (.int .i64 (limit : Int)) := by rw [hr]; rfl
 have c7 : w.cell? ⟨XB, 7, none⟩ = some (.int .i64 (s.1 : Int)) := by rw [hr]; rfl
 have c8 : w.cell? ⟨XB, 8, none⟩ = some (.bool s.2.1) := by rw [hr]; rfl
 have cM : w.cell? ⟨MB, 0, none⟩ = some (.bool true) := by rw [cell_of_block hM]; rfl
 have fM := frozen_of_block hM 0
 have f8 := frozen_of_block hG.hh 8
 have f7 := frozen_of_block hG.hh 7
 have hle := hG.le
 have hMX : ¬ MB = XB := fun e => hMn (.inl e)
 have hXM : ¬ XB = MB := fun e => hMn (.inl e.symm)
 have hX2 : ¬ XPB = XB := fun e => (hfar XPB f2).1 (.inl e)
 have hX4 : ¬ STB = XB := fun e => (hfar STB f4).1 (.inl e)
 have hX5 : ¬ CB = XB := fun e => (hfar CB f5).1 (.inl e)
 by_cases hA : s.1 = limit
 ·have hres : goStep limit (stayP n t) (goF limit (stayP n t) vis (keysOf m) d) cuts s key = ((s.1, true, s.2.2), false) := by unfold goStep; rw [if_pos hA]
  rw [hres]
  have e1 : ((s.1 : Int) == (limit : Int)) = true := by rw [beq_iff_eq]; omega
  have H := Lib.hid (And.intro hG (And.intro hM (And.intro hMn (And.intro hA hres)))); clear hG hM hMn hA hres hr hst ht hc hk IH hp hop
  go_enter Tryz.func190, Tryz.ntmps190
  go_wp2_with fail
  go_region
  all_goals
   go_wp2_with fail
   go_ret
   refine ⟨F, rfl, ⟨?_, V.keep _ _ _ _ H.out.1.vi (by simp) (fun b hb => ?_), H.out.1.ne, fun b hb => by have := H.out.1.lt b hb; simpa using this, H.out.1.le⟩, ?_, ?_, fun b hb => .inl hb⟩
   ·rw [hdr, heap_setCell_other _ hXM, heap_setCell_self H.out.1.hh]; simp [goCells]
   ·rw [hdr, heap_setCell_other _ (fun e => H.out.2.2.1 (.inr (by have e2 : b = MB := e; rw [← e2]; exact hb))), heap_setCell_other _ (fun e => H.out.1.ne (by have e2 : b = XB := e; rw [← e2]; exact hb))]
   ·rw [hdr, heap_setCell_self (by rw [heap_setCell_other _ hMX]; exact H.out.2.1)]; rfl
   ·exact (((Chg.refl _ _).setCell (p := ⟨XB, 8, none⟩) (.inl (.inl (.inl rfl))) _).setCell (p := ⟨MB, 0, none⟩) (.inl (.inr rfl)) _).drew
 ·have e1 : ((s.1 : Int) == (limit : Int)) = false := by rw [beq_eq_false_iff_ne]; omega
  have hs1 : s.1 < limit := by omega
  have hfit := hp.fits
  have hklen : (key.length : Int) = m.c := (isKey_iff.1 hkey).1
  have hkl : key.length ≤ 1048576 := by
   have := Mk.ok_iff.1 hfit.ok
   omega
  have hcl : cuts.length ≤ 1000 := by have := hfit.rows; omega
  have hck : ∀ k, k < cuts.length → (getl cuts k).length ≤ 1000 := fun k hk => by
   have := hfit.lens k hk
   have := Mk.ok_iff.1 hfit.ok
   omega
  have hbits : ∀ d, d < (getl t 0).length → geti (getl t cuts.length) d = 0 ∨ geti (getl t cuts.length) d = 1 := fun d hd => by
   have h1 : d < (getl t cuts.length).length := by rw [hfit.cols _ hl]; exact hd
   have := hfit.bits _ hl _ (geti_mem h1)
   omega
  have hse : staysB t cuts (locksTo n t cuts (getl t 0).length) key = stayP n t cuts key := by
   rw [Bool.eq_iff_iff, stay_iff (by omega) (fun k hk => by have := hfit.lens k hk; omega) hbits hop]
   unfold stayP openP
   rw [decide_eq_true_iff, List.length_eq_zero_iff]
  obtain ⟨w1, hw1⟩ : ∃ w1, w1 = (w.setCell ⟨XB, 7, none⟩ (.int .i64 ((s.1 : Int) + 1))).drew := ⟨_, rfl⟩
  have hC1 : Chg (fun b => b = XB) w w1 := by rw [hw1]; exact ((Chg.refl (fun b => b = XB) _).setCell (p := ⟨XB, 7, none⟩) (.inl rfl) _).drew
  have hG1 : Gs m (.slice ta t.length tc) limit fv XB VI (s.1 + 1, s.2.1, s.2.2) F w1 := by
   refine ⟨?_, V.keep _ _ _ _ hG.vi hC1.size (fun b hb => hC1.block b (hG.lt b hb) (fun e => hG.ne (e ▸ hb))), hG.ne, fun b hb => Nat.lt_of_lt_of_le (hG.lt b hb) hC1.size, by show s.1 + 1 ≤ limit; omega, hle.2⟩
   rw [hw1, hdr, heap_setCell_self hG.hh]; simp [goCells]
  have hk1 : Keep Far w w1 := hC1.keep fun b hb e => (hfar b hb).1 (.inl e)
  have hz1 := hC1.size
  have hst1 := hst.keep hz1 hk1
  obtain ⟨lv, rv, cv1, tv1, g1, g2, g3, g4, g5, _, _, _, _, g6, g7, g8, g9⟩ := hst1
  have hks : V1 (fun b => ¬ b = XB) w1 (.slice ka key.length kc) key := hk.mono (fun b hb _ e => (hkS b hb).1 (.inl e)) (hC1.keep fun b hb e => (hkS b hb).1 (.inl e))
  have hcall := stay1_any (S := fun _ => True) (S1 := fun _ => True) (S2 := fun _ => True) (S3 := fun _ => True) m t cuts (locksTo n t cuts (getl t 0).length) key tv1 lv cv1 (.slice ka key.length kc) rv LB RB CB2 SB w1 n
   (locksTo_len n t cuts _) (fun d hd => lock_len (by rw [locksTo_len] at hd; exact hd)) (by omega) (fun k hk => by have := hfit.lens k hk; omega) hl hfit.cols hbits g1 g2 g3 g4 g5 (g6.mono (fun _ _ _ => trivial) (fun _ _ _ => rfl)) (g7.mono (fun _ _ _ => trivial) (fun _ _ _ => rfl)) (g8.mono (fun _ _ _ => trivial) (fun _ _ _ => rfl)) (g9.mono (fun _ _ _ => trivial) (fun _ _ _ => rfl)) (hks.mono (fun _ _ _ => trivial) (fun _ _ _ => rfl))
  rw [hse] at hcall
  obtain ⟨sb, hsb⟩ : ∃ b, stayP n t cuts key = b := ⟨_, rfl⟩
  rw [hsb] at hcall
  have hstep : goStep limit (stayP n t) (goF limit (stayP n t) vis (keysOf m) d) cuts s key = if sb = true then goF limit (stayP n t) vis (keysOf m) d (cuts ++ [key]) (s.1 + 1, s.2.1, s.2.2) else ((s.1 + 1, s.2.1, s.2.2), true) := by
   unfold goStep; rw [if_neg hA, hsb]
  have hM1 : w1.heap[MB]? = some (.cells #[.bool true] 4 (0, 0)) := hC1.heap hM hMX
  have H := Lib.hid (And.intro hcall (And.intro hG1 (And.intro hC1 (And.intro hw1 (And.intro hstep (And.intro hM1 (And.intro IH (And.intro hp (And.intro hks (And.intro hsb (And.intro hk1 hfar)))))))))))
  clear hcall hG1 hC1 hstep hM1 IH hp hks hst g1 g2 g3 g4 g5 g6 g7 g8 g9 hse hbits hck hfit hr hk1 hG hM hop hklen hsb hfar
  have h4' : w.cell? ⟨STB, 0, none⟩ = some (.func (.func 216) #[] #[.pointer (some ⟨LB, 0, none⟩), .pointer (some ⟨RB, 0, none⟩), .pointer (some ⟨CB2, 0, none⟩), .pointer (some ⟨SB, 0, none⟩)]) := h4
  cases sb
  ·go_enter Tryz.func190, Tryz.ntmps190
   go_wp2_with fail
   go_region
   all_goals
    go_wp2_with fail
    rw [← H.out.2.2.2.1]
    refine H.out.1.mono ?_
    rintro e' w2 ⟨rfl, hb2⟩
    have hM2 := (hb2.block MB (lt_of_heap H.out.2.2.2.2.2.1)).trans H.out.2.2.2.2.2.1
    have cM2 : w2.cell? ⟨MB, 0, none⟩ = some (.bool true) := by rw [cell_of_block hM2]; rfl
    have HM2 := Lib.hid (And.intro hM2 hb2); clear hM2 hb2
    go_wp2_with fail
    go_ret
    rw [H.out.2.2.2.2.1]
    exact ⟨F, rfl, H.out.2.1.below V HM2.out.2, HM2.out.1, (H.out.2.2.1.mono (fun b hb => .inl (.inl hb))).then_below HM2.out.2, fun b hb => .inl hb⟩
  ·go_enter Tryz.func190, Tryz.ntmps190
   go_wp2_with fail
   go_region
   all_goals
    go_wp2_with fail
    rw [← H.out.2.2.2.1]
    refine H.out.1.mono ?_
    rintro e' w2 ⟨rfl, hb2⟩
    obtain ⟨_, hG1, hC1, hwe, hstep, hM1, IH, hp, hks, hsb, hk1, hfar⟩ := H.out
    have hz2 := hb2.size
    have hzw := hC1.size
    have hkF : Keep Far w w2 := fun b hb hlt => (hb2.block b (by omega)).trans (hk1 b hb hlt)
    have c2 := cell_keep h2 (hkF _ f2 (lt_of_cell h2))
    have c5 := cell_keep h5 (hkF _ f5 (lt_of_cell h5))
    have hc2 : V2 Far w2 (.slice ca cuts.length cc) cuts := hc.mono (fun _ h _ => h) hkF
    have ht2 : V2 Far w2 (.slice ta t.length tc) t := ht.mono (fun _ h _ => h) hkF
    have hk2 := hks.below hb2
    have hSk : ∀ w', Below w2.heap.size w2 w' → w'.cell? ⟨XPB, 0, none⟩ = some (.pointer (some ⟨XB, 0, none⟩)) ∧ w'.cell? ⟨CB, 0, none⟩ = some (.slice ca cuts.length cc) := fun w' hb => ⟨cell_keep c2 (hb.block _ (lt_of_cell c2)), cell_keep c5 (hb.block _ (lt_of_cell c5))⟩
    have hS0 := hSk w2.drew ((Below.refl _ _).drew)
    have HW := Lib.hid (And.intro hG1 (And.intro hC1 (And.intro hstep (And.intro hM1 (And.intro IH (And.intro hp (And.intro hks (And.intro hsb (And.intro hfar (And.intro hc2 (And.intro ht2 (And.intro hk2 hb2))))))))))))
    clear hG1 hC1 hstep hM1 IH hp hks hsb hfar hc2 ht2 hk2 hb2 hk1 hwe hw1 hc ht
    dsimp only
    go_wp2_with fail
    refine wp_region_noPanic ?_
    refine wp_region_held_drew (S := fun w' => w'.cell? ⟨XPB, 0, none⟩ = some (.pointer (some ⟨XB, 0, none⟩)) ∧ w'.cell? ⟨CB, 0, none⟩ = some (.slice ca cuts.length cc)) (by kernel_rfl) hS0 (fun hHeld => ?_)
    (refine wpAnyH_take (i := 0) (v := .pointer (some ⟨XB, 0, none⟩)) rfl (by kernel_rfl) (by kernel_rfl) (by kernel_rfl) (fun _ _ _ h => h) (Or.inl ⟨by kernel_rfl, fun w hSw => by (try dsimp only at hSw); go_split_ands; go_simp⟩) (by assumption) ?_; simp only [Act.put, List.setIfInBounds_toArray, List.set_cons_zero, List.set_cons_succ])
    (refine wpAnyH_take (i := 1) (v := .slice ca cuts.length cc) rfl (by kernel_rfl) (by kernel_rfl) (by kernel_rfl) (fun _ _ _ h => h) (Or.inl ⟨by kernel_rfl, fun w hSw => by (try dsimp only at hSw); go_split_ands; go_simp⟩) (by assumption) ?_; simp only [Act.put, List.setIfInBounds_toArray, List.set_cons_zero, List.set_cons_succ])
    (refine wpAnyH_take (i := 3) (v := .slice ka key.length kc) rfl (by kernel_rfl) (by kernel_rfl) (by kernel_rfl) (fun _ _ _ h => h) (Or.inl ⟨by kernel_rfl, fun w hSw => by (try dsimp only at hSw); go_split_ands; go_simp⟩) (by assumption) ?_; simp only [Act.put, List.setIfInBounds_toArray, List.set_cons_zero, List.set_cons_succ])
    refine wpAnyH_ready (rs := [2]) (by kernel_rfl) (by simp) (AllReadyH.cons rfl (fun K hK => ?_) AllReadyH.nil)
    go_simp
    go_at_call 96
    have hbD : Below w2.heap.size w2 w2.drew := (Below.refl _ _).drew
    refine (slClone2_any _ cuts _ (HW.out.2.2.2.2.2.2.2.2.2.1.below hbD) hcp (by omega)).mono ?_
    rintro e' wl ⟨vl, vs, rfl, hown, hvs, hbl⟩
    obtain ⟨al, cl, rfl, hl1, hl2⟩ := own_form hown
    dsimp only
    have hbl2 : Below w2.heap.size w2 wl := hbD.trans (hbl.mono hbD.size)
    have hown : wl.ownsRow w2.heap.size 44 1 (.slice al cuts.length cl) cuts.length vs := hown
    have hzl := hbl2.size
    have hSl := hSk _ hbl2
    (refine hK.out _ _ hSl (fun hHeld => ?_); clear hK K; (try simp only [Act.put, List.setIfInBounds_toArray, List.set_cons_zero, List.set_cons_succ]))
    refine wpAnyH_ready (rs := [4]) (by kernel_rfl) (by simp) (AllReadyH.cons rfl (fun K hK => ?_) AllReadyH.nil)
    go_simp
    go_at_call 62
    refine (slClone_any _ key _ (HW.out.2.2.2.2.2.2.2.2.2.2.2.1.below hbl2) hkl).mono ?_
    rintro e' wk ⟨vk, rfl, hFk, hbk⟩
    obtain ⟨ak, ck, rfl, _⟩ := hFk.v1.form
    dsimp only
    have hbk2 : Below w2.heap.size w2 wk := hbl2.trans (hbk.mono hzl)
    have hzk := hbk.size
    have hSk2 := hSk _ hbk2
    (refine hK.out _ _ hSk2 (fun hHeld => ?_); clear hK K; (try simp only [Act.put, List.setIfInBounds_toArray, List.set_cons_zero, List.set_cons_succ]))
    (refine wpAnyH_ready (rs := [5]) (by kernel_rfl) (by simp) (AllReadyH.cons rfl (fun K hK => ?_) AllReadyH.nil); go_simp)
    have hba2 : Below w2.heap.size w2 (wk.alloc (.cells #[.slice ak key.length ck] 44)) := hbk2.alloc hbk2.size _
    have hba : Below wk.heap.size wk (wk.alloc (.cells #[.slice ak key.length ck] 44)) := (Below.refl _ _).alloc (Nat.le_refl _) _
    have hSa := hSk _ hba2
    (refine hK.out _ _ hSa (fun hHeld => ?_); clear hK K; (try simp only [Act.put, List.setIfInBounds_toArray, List.set_cons_zero, List.set_cons_succ]))
    have hownk := own_keep hown hbk
    have hobl : ∀ g, Value.ownBlock (.slice al cuts.length cl) = some g → w2.heap.size ≤ g ∧ g < wl.heap.size := fun g hg => hown.lt g hg
    refine wpAnyH_ready (rs := [6]) (by kernel_rfl) (by simp) (AllReadyH.cons rfl (fun K hK => ?_) AllReadyH.nil)
    refine step_append_lies _ (by rfl) _ _ _ (by rfl) w2.heap.size 44 iC _ 1 24 Tryz.underlying24 hiC hzC0 hzC1 hzC2 rfl (by omega) _ cuts.length _ (by rfl) (own_keep hownk hba) ⟨_, 0, none⟩ 1 1 [.slice ak key.length ck] (by rfl) (by rfl) (World.news_of_block (heap_alloc_new _ _)) (by simp [Value.oneCell']) (by omega) (by unfold maxLen; omega) (by omega) (by simp; omega) _ rfl ?_
    intro gg cap w4 hown4 hgrow4 hat4 hlt4
    have hrowa : RowVs Far (wk.alloc (.cells #[.slice ak key.length ck] 44)) vs cuts := ((hvs.below hbk).below hba)
    have hkeya : V1 (fun b => w2.heap.size ≤ b ∧ Value.ownBlock (.slice al cuts.length cl) ≠ some b) (wk.alloc (.cells #[.slice ak key.length ck] 44)) (.slice ak key.length ck) key := (hFk.v1.below hba).mono (fun b hb _ => ⟨by omega, fun e => by have := (hobl b e).2; omega⟩) (fun _ _ _ => rfl)
    have hb4 : Below w2.heap.size w2 w4 := hba2.grown hgrow4 hba2.size (fun g hg => (hobl g hg).1)
    have hV4 := go_row rfl hown4 hrowa hkeya hgrow4 (fun b hb e => by have h1 := (HW.out.2.2.2.2.2.2.2.2.1 b hb).2.2; have := (hobl b e).1; omega) (Nat.le_refl _)
    have hS4 := hSk _ hb4
    have hz4 := hb4.size
    have hgl := fun b (hb : GF XB F b) => HW.out.1.glt hb
    have hop2 : falseL n t (cuts ++ [key]) = [] := by
     have h1 := HW.out.2.2.2.2.2.2.2.1
     unfold stayP openP at h1
     exact List.length_eq_zero_iff.1 (of_decide_eq_true h1)
    have hask := HW.out.2.2.2.2.1 (cuts ++ [key]) (.slice (some ⟨gg, 0, none⟩) (cuts.length + 1) cap) (s.1 + 1, s.2.1, s.2.2) F w4 (by simp; omega)
     ⟨HW.out.1.below V (HW.out.2.2.2.2.2.2.2.2.2.2.2.2.trans (hb4.mono hz2)), (HW.out.2.2.2.2.2.2.2.2.2.2.1.below hb4).mono (fun b hb _ => (HW.out.2.2.2.2.2.2.2.2.1 b hb).1) (fun _ _ _ => rfl), hV4.mono (fun b hb _ hf => by
       rcases hb with hb | hb
       ·exact (HW.out.2.2.2.2.2.2.2.2.1 b hb).1 hf
       ·have := hgl b hf; omega) (fun _ _ _ => rfl), fun e => by simp at e, HW.out.2.2.2.2.2.1.more hl hkey, hop2, hact⟩
    have Hask := Lib.hid (And.intro hask (And.intro hb4 hgl)); clear hask hV4 hrowa hkeya hown4 hgrow4 hown hownk hvs hFk hbl hbk hb4 hgl hop2 hobl
    (refine hK.out _ _ hS4 (fun hHeld => ?_); clear hK K; (try simp only [Act.put, List.setIfInBounds_toArray, List.set_cons_zero, List.set_cons_succ]))
    refine wpAnyH_ready (rs := [7]) (by kernel_rfl) (by simp) (AllReadyH.cons rfl (fun K hK => ?_) AllReadyH.nil)
    go_simp
    refine Hask.out.1.mono ?_
    rintro e' w5 ⟨F', rfl, hG5, hch5, hsub5⟩
    have hMl := lt_of_heap HW.out.2.2.2.1
    have hM4 : w4.heap[MB]? = some (.cells #[.bool true] 4 (0, 0)) := (Hask.out.2.1.block MB (by omega)).trans ((HW.out.2.2.2.2.2.2.2.2.2.2.2.2.block MB hMl).trans HW.out.2.2.2.1)
    have hM5 : w5.heap[MB]? = some (.cells #[.bool true] 4 (0, 0)) := hch5.heap hM4 hMn
    have cM5 : w5.cell? ⟨MB, 0, none⟩ = some (.bool true) := by rw [cell_of_block hM5]; rfl
    have fM5 := frozen_of_block hM5 0
    have hfx := HW.out.2.2.2.2.2.2.2.2.1
    have hMl0 := lt_of_cell cM
    have hlx := lt_of_cell h2
    have hlc := lt_of_cell h5
    have hS5 := And.intro (cell_keep hS4.1 (hch5.block XPB (lt_of_cell hS4.1) (hfx XPB f2).1)) (cell_keep hS4.2 (hch5.block CB (lt_of_cell hS4.2) (hfx CB f5).1))
    obtain ⟨r, hr⟩ : ∃ r, goF limit (stayP n t) vis (keysOf m) d (cuts ++ [key]) (s.1 + 1, s.2.1, s.2.2) = r := ⟨_, rfl⟩
    rw [hr] at hG5
    have hstep := HW.out.2.2.1
    rw [hr, if_pos trivial] at hstep
    rw [hr]
    dsimp only
    (refine hK.out _ _ hS5 (fun hHeld => ?_); clear hK K; (try simp only [Act.put, List.setIfInBounds_toArray, List.set_cons_zero, List.set_cons_succ]))
    have hMx : ∀ b, GF XB F' b → MB ≠ b := fun b hb e => by
     rcases hsub5 b hb with h | h
     ·exact hMn (e ▸ h)
     ·omega
    have hG6 := hG5.keep (w' := w5.setCell ⟨MB, 0, none⟩ (.bool r.2)) V (by simp) (fun b hb => heap_setCell_other _ (fun e => hMx b hb e.symm))
    have hM6 : (w5.setCell ⟨MB, 0, none⟩ (.bool r.2)).heap[MB]? = some (.cells #[.bool r.2] 4 (0, 0)) := by rw [heap_setCell_self hM5]; rfl
    have hX2M : ¬ XPB = MB := (hfx XPB f2).2.1
    have hCBM : ¬ CB = MB := (hfx CB f5).2.1
    have hS6 := And.intro (cell_keep hS5.1 (heap_setCell_other (b := MB) (off := 0) (.bool r.2) hX2M)) (cell_keep hS5.2 (heap_setCell_other (b := MB) (off := 0) (.bool r.2) hCBM))
    have cM6 : (w5.setCell ⟨MB, 0, none⟩ (.bool r.2)).cell? ⟨MB, 0, none⟩ = some (.bool r.2) := by rw [cell_of_block hM6]; rfl
    have hC6 : Chg (fun b => GF XB F b ∨ b = MB) w (w5.setCell ⟨MB, 0, none⟩ (.bool r.2)) :=
     ((((HW.out.2.1.mono (fun b hb => .inl (.inl hb))).then_below HW.out.2.2.2.2.2.2.2.2.2.2.2.2).then_below Hask.out.2.1).trans hch5 (fun b hb => .inl (.inl hb))).setCell (p := ⟨MB, 0, none⟩) (.inl (.inr rfl)) _
    have HF := Lib.hid (And.intro hG6 (And.intro hM6 (And.intro hC6 (And.intro hstep hsub5)))); clear hG6 hM6 hC6 hstep hsub5 hG5 hch5 hM4 hMx hr
    (refine wpAnyH_ready (rs := [8]) (by kernel_rfl) (by simp) (AllReadyH.cons rfl (fun K hK => ?_) AllReadyH.nil); go_simp)
    (refine hK.out _ _ hS6 (fun hHeld => ?_); clear hK K; (try simp only [Act.put, List.setIfInBounds_toArray, List.set_cons_zero, List.set_cons_succ]))
    refine wpAnyH_done (by kernel_rfl) (NoPanic.normal ?_) _
    go_wp2_with fail
    go_ret
    rw [HF.out.2.2.2.1]
    exact ⟨F', rfl, HF.out.1, HF.out.2.1, HF.out.2.2.1, fun b hb => by rcases HF.out.2.2.2.2 b hb with h | h; exact .inl h; right; omega⟩
end Go.Proofs.YtmjplkbmhdkggaaGreat
