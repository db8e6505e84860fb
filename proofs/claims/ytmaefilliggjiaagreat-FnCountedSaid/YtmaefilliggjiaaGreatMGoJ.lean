/- The program's search for designs from a key on: one visit. No conditions. -/
import Derived.Laws.EntriesVeiled
import Derived.Test.YtmaefilliggjiaaGreatGoI
import Derived.Test.YtmaefilliggjiaaGreatEach6
import Derived.Test.YtmaefilliggjiaaGreatGoV
import Derived.Test.YtmaefilliggjiaaGreatMTightP
namespace Go.Proofs.YtmaefilliggjiaaGreat
open Go.RowKit
set_option linter.unusedVariables false
set_option linter.unusedSimpArgs false
theorem neqSomeS (w : World) (ad : Addr) (n c : Nat) : Sem.run Tryz.prog (binOp .neq 35 (.slice (some ad) n c) (.slice none 0 0)) w = .ok (.bool true) w := by kernel_rfl
theorem G1Post.pre {τ : Type} {m : Mk} {tv : Value} {limit : Nat} {fv : Value} {XB MB : Nat} {VI : τ → (Nat → Prop) → World → Prop} {F : Nat → Prop} {w wn : World} {r : GSt τ × Bool} {e : Ending} {w' : World} (hb : Below w.heap.size w wn) (h : G1Post m tv limit fv XB MB VI F wn r e w') : G1Post m tv limit fv XB MB VI F w r e w' := by
 obtain ⟨F', h1, h2, h3, h4, h5⟩ := h
 exact ⟨F', h1, h2, h3, (Chg.of_below hb).trans h4 (fun i hi => .inl hi), fun b hb' => by
  rcases h5 b hb' with h | h
  ·exact .inl h
  ·right; have := hb.size; omega⟩
set_option maxRecDepth 100000 in
set_option maxHeartbeats 2000000 in
theorem go1b_any {τ : Type} {act : τ → Prop} {S Far : Nat → Prop} {P : List (List Int) → Prop} {vf : FuncId} {vcaps : Array Value} {vis : τ → List (List Int) → τ × Bool} {VI : τ → (Nat → Prop) → World → Prop} (V : VisG act P vf vcaps vis VI)
  (m : Mk) (t : List (List Int)) (n : Nat) (hn : (n : Int) = m.c) (limit : Nat) (tv cv kv fv : Value) (XB MB FRB XPB STB CB LB RB CB2 SB d : Nat) (cuts : List (List Int)) (key : List Int) (s : GSt τ) (F : Nat → Prop) (w : World)
  (hp : PartOk m t cuts) (hl : cuts.length < t.length) (hcd : cuts.length + (d + 1) = t.length) (hop : falseL n t cuts = []) (hact : act s.2.2) (IH : GoAny act m t n tv limit fv XB VI vis d)
  (hG : Gs m tv limit fv XB VI s F w) (hM : w.heap[MB]? = some (.cells #[.bool true] 4 (0, 0))) (hMn : ¬ GF XB F MB) (hfar : ∀ b, Far b → ¬ GF XB F b ∧ b ≠ MB ∧ b < w.heap.size)
  (fr : List Int) (fad : Addr) (frc : Nat) (h1 : w.cell? ⟨FRB, 0, none⟩ = some (.slice (some fad) fr.length frc)) (hfr : V1 Far w (.slice (some fad) fr.length frc) fr) (hne : key ≠ fr) (f1 : Far FRB) (h2 : w.cell? ⟨XPB, 0, none⟩ = some (.pointer (some ⟨XB, 0, none⟩))) (f2 : Far XPB)
  (h4 : w.cell? ⟨STB, 0, none⟩ = some (.func (.func 259) #[] #[.pointer (some ⟨LB, 0, none⟩), .pointer (some ⟨RB, 0, none⟩), .pointer (some ⟨CB2, 0, none⟩), .pointer (some ⟨SB, 0, none⟩)])) (f4 : Far STB)
  (h5 : w.cell? ⟨CB, 0, none⟩ = some cv) (f5 : Far CB) (hst : StayAt Far m t cuts (locksTo n t cuts (getl t 0).length) LB RB CB2 SB w)
  (ht : V2 Far w tv t) (hc : V2 Far w cv cuts) (hcp : cuts = [] → PV cv) (hk : V1 S w kv key) (hkS : ∀ b, S b → ¬ GF XB F b ∧ b ≠ MB) (hkey : isKeyB m key = true) :
  Calls Tryz.prog 206 #[kv, .pointer (some ⟨FRB, 0, none⟩), .pointer (some ⟨XPB, 0, none⟩), .pointer (some ⟨MB, 0, none⟩), .pointer (some ⟨STB, 0, none⟩), .pointer (some ⟨CB, 0, none⟩)] w
   (G1Post m tv limit fv XB MB VI F w (goStep limit (stayP n t) (goF limit (stayP n t) vis (keysOf m) d) cuts s key)) := by
 obtain ⟨iC, hiC, hzC0, hzC1, hzC2⟩ := info_parts inf_ints
 have hdr : ∀ u : World, u.drew.heap = u.heap := fun _ => rfl
 obtain ⟨ta, tc, rfl, htm⟩ := ht.form
 obtain ⟨ca, cc, rfl, hcm⟩ := hc.form
 obtain ⟨ka, kc, rfl, hkm⟩ := hk.form
 have hNe := neqSomeS
 have hed : decide (key = fr) = false := decide_eq_false hne
 have HH := Lib.hid (And.intro hG (And.intro hM (And.intro hst (And.intro ht (And.intro hc (And.intro hk (And.intro hop (And.intro hp (And.intro IH hact)))))))))
 have hkE := hk
 have Hfr := Lib.hid hfr
 clear hG hM hst ht hc hk hop hp IH hact hfr hne
 go_enter Tryz.func206, Tryz.ntmps206
 go_wp2_with (go_at_call 113; refine (slEqual_b _ _ key fr _ false hed hkE Hfr.out).mono ?_; rintro e' w' ⟨rfl, nq, rfl⟩)
 obtain ⟨wn, hwn⟩ : ∃ wn, wn = w.drewN nq := ⟨_, rfl⟩
 rw [← hwn]
 have hbn : Below w.heap.size w wn := by rw [hwn]; exact below_drewN (Below.refl _ _) _
 obtain ⟨hG, hM, hst, ht, hc, hk, hop, hp, IH, hact⟩ := HH.out
 have hG := hG.below V hbn
 have hM := (hbn.block MB (lt_of_heap hM)).trans hM
 have hst := hst.keep hbn.size (Below.keep hbn fun _ _ h => h)
 have ht := ht.below hbn
 have hc := hc.below hbn
 have hk := hk.below hbn
 have h2 := cell_keep h2 (hbn.block _ (lt_of_cell h2))
 have h4 := cell_keep h4 (hbn.block _ (lt_of_cell h4))
 have h5 := cell_keep h5 (hbn.block _ (lt_of_cell h5))
 have hfar : ∀ b, Far b → ¬ GF XB F b ∧ b ≠ MB ∧ b < wn.heap.size := fun b hb => ⟨(hfar b hb).1, (hfar b hb).2.1, by have := (hfar b hb).2.2; have := hbn.size; omega⟩
 have Hbn := Lib.hid hbn
 clear hbn hwn HH Hfr hkE hed h1
 have hr := hG.cell
 have c6 : wn.cell? ⟨XB, 6, none⟩ = some (.int .i64 (limit : Int)) := by rw [hr]; rfl
 have c7 : wn.cell? ⟨XB, 7, none⟩ = some (.int .i64 (s.1 : Int)) := by rw [hr]; rfl
 have c8 : wn.cell? ⟨XB, 8, none⟩ = some (.bool s.2.1) := by rw [hr]; rfl
 have cM : wn.cell? ⟨MB, 0, none⟩ = some (.bool true) := by rw [cell_of_block hM]; rfl
 have fM := frozen_of_block hM 0
 have f8 := frozen_of_block hG.hh 8
 have f7 := frozen_of_block hG.hh 7
 have hle := hG.le
 have hMX : ¬ MB = XB := fun e => hMn (.inl e)
 have hXM : ¬ XB = MB := fun e => hMn (.inl e.symm)
 have hX2 : ¬ XPB = XB := fun e => (hfar XPB f2).1 (.inl e)
 have hX4 : ¬ STB = XB := fun e => (hfar STB f4).1 (.inl e)
 have hX5 : ¬ CB = XB := fun e => (hfar CB f5).1 (.inl e)
 by_cases hA : s.1 = limit
 ·have hres : goStep limit (stayP n t) (goF limit (stayP n t) vis (keysOf m) d) cuts s key = ((s.1, true, s.2.2), false) := by unfold goStep; rw [if_pos hA]
  have e1 : ((s.1 : Int) == (limit : Int)) = true := by rw [beq_iff_eq]; omega
  have H := Lib.hid (And.intro hG (And.intro hM (And.intro hMn (And.intro hA hres)))); clear hG hM hMn hA hres hr hst ht hc hk IH hp hop
  go_region
  all_goals
   go_wp2_with fail
   go_ret
   rw [H.out.2.2.2.2]
   refine G1Post.pre Hbn.out ?_
   refine ⟨F, rfl, ⟨?_, V.keep _ _ _ _ H.out.1.vi (by simp) (fun b hb => ?_), H.out.1.ne, fun b hb => by have := H.out.1.lt b hb; simpa using this, H.out.1.le⟩, ?_, ?_, fun b hb => .inl hb⟩
   ·rw [hdr, heap_setCell_other _ hXM, heap_setCell_self H.out.1.hh]; simp [goCells]
   ·rw [hdr, heap_setCell_other _ (fun e => H.out.2.2.1 (.inr (by have e2 : b = MB := e; rw [← e2]; exact hb))), heap_setCell_other _ (fun e => H.out.1.ne (by have e2 : b = XB := e; rw [← e2]; exact hb))]
   ·rw [hdr, heap_setCell_self (by rw [heap_setCell_other _ hMX]; exact H.out.2.1)]; rfl
   ·exact (((Chg.refl _ _).setCell (p := ⟨XB, 8, none⟩) (.inl (.inl (.inl rfl))) _).setCell (p := ⟨MB, 0, none⟩) (.inl (.inr rfl)) _).drew
 ·have e1 : ((s.1 : Int) == (limit : Int)) = false := by rw [beq_eq_false_iff_ne]; omega
  have hs1 : s.1 < limit := by omega
  have hfit := hp.fits
  have hklen : (key.length : Int) = m.c := (isKey_iff.1 hkey).1
  have hkl : key.length ≤ 1048576 := by
   have := Mk.ok_iff.1 hfit.ok
   omega
  have hcl : cuts.length ≤ 1000 := by have := hfit.rows; omega
  have hck : ∀ k, k < cuts.length → (getl cuts k).length ≤ 1000 := fun k hk => by
   have := hfit.lens k hk
   have := Mk.ok_iff.1 hfit.ok
   omega
  have hbits : ∀ d, d < (getl t 0).length → geti (getl t cuts.length) d = 0 ∨ geti (getl t cuts.length) d = 1 := fun d hd => by
   have h1 : d < (getl t cuts.length).length := by rw [hfit.cols _ hl]; exact hd
   have := hfit.bits _ hl _ (geti_mem h1)
   omega
  have hse : staysB t cuts (locksTo n t cuts (getl t 0).length) key = stayP n t cuts key := by
   rw [Bool.eq_iff_iff, stay_iff (by omega) (fun k hk => by have := hfit.lens k hk; omega) hbits hop]
   unfold stayP openP
   rw [decide_eq_true_iff, List.length_eq_zero_iff]
  obtain ⟨w1, hw1⟩ : ∃ w1, w1 = (wn.setCell ⟨XB, 7, none⟩ (.int .i64 ((s.1 : Int) + 1))).drew := ⟨_, rfl⟩
  have hC1 : Chg (fun b => b = XB) wn w1 := by rw [hw1]; exact ((Chg.refl (fun b => b = XB) _).setCell (p := ⟨XB, 7, none⟩) (.inl rfl) _).drew
  have hG1 : Gs m (.slice ta t.length tc) limit fv XB VI (s.1 + 1, s.2.1, s.2.2) F w1 := by
   refine ⟨?_, V.keep _ _ _ _ hG.vi hC1.size (fun b hb => hC1.block b (hG.lt b hb) (fun e => hG.ne (e ▸ hb))), hG.ne, fun b hb => Nat.lt_of_lt_of_le (hG.lt b hb) hC1.size, by show s.1 + 1 ≤ limit; omega, hle.2⟩
   rw [hw1, hdr, heap_setCell_self hG.hh]; simp [goCells]
  have hk1 : Keep Far wn w1 := hC1.keep fun b hb e => (hfar b hb).1 (.inl e)
  have hz1 := hC1.size
  have hst1 := hst.keep hz1 hk1
  obtain ⟨lv, rv, cv1, tv1, g1, g2, g3, g4, g5, _, _, _, _, g6, g7, g8, g9⟩ := hst1
  have hks : V1 (fun b => ¬ b = XB) w1 (.slice ka key.length kc) key := hk.mono (fun b hb _ e => (hkS b hb).1 (.inl e)) (hC1.keep fun b hb e => (hkS b hb).1 (.inl e))
  have hcall := stay1_any (S := fun _ => True) (S1 := fun _ => True) (S2 := fun _ => True) (S3 := fun _ => True) m t cuts (locksTo n t cuts (getl t 0).length) key tv1 lv cv1 (.slice ka key.length kc) rv LB RB CB2 SB w1 n
   (locksTo_len n t cuts _) (fun d hd => lock_len (by rw [locksTo_len] at hd; exact hd)) (by omega) (fun k hk => by have := hfit.lens k hk; omega) hl hfit.cols hbits g1 g2 g3 g4 g5 (g6.mono (fun _ _ _ => trivial) (fun _ _ _ => rfl)) (g7.mono (fun _ _ _ => trivial) (fun _ _ _ => rfl)) (g8.mono (fun _ _ _ => trivial) (fun _ _ _ => rfl)) (g9.mono (fun _ _ _ => trivial) (fun _ _ _ => rfl)) (hks.mono (fun _ _ _ => trivial) (fun _ _ _ => rfl))
  rw [hse] at hcall
  obtain ⟨sb, hsb⟩ : ∃ b, stayP n t cuts key = b := ⟨_, rfl⟩
  rw [hsb] at hcall
  have hstep : goStep limit (stayP n t) (goF limit (stayP n t) vis (keysOf m) d) cuts s key = if sb = true then goF limit (stayP n t) vis (keysOf m) d (cuts ++ [key]) (s.1 + 1, s.2.1, s.2.2) else ((s.1 + 1, s.2.1, s.2.2), true) := by
   unfold goStep; rw [if_neg hA, hsb]
  have hM1 : w1.heap[MB]? = some (.cells #[.bool true] 4 (0, 0)) := hC1.heap hM hMX
  have H := Lib.hid (And.intro hcall (And.intro hG1 (And.intro hC1 (And.intro hw1 (And.intro hstep (And.intro hM1 (And.intro IH (And.intro hp (And.intro hks (And.intro hsb (And.intro hk1 hfar)))))))))))
  clear hcall hG1 hC1 hstep hM1 IH hp hks hst g1 g2 g3 g4 g5 g6 g7 g8 g9 hse hbits hck hfit hr hk1 hG hM hop hklen hsb hfar
  have h4' : wn.cell? ⟨STB, 0, none⟩ = some (.func (.func 259) #[] #[.pointer (some ⟨LB, 0, none⟩), .pointer (some ⟨RB, 0, none⟩), .pointer (some ⟨CB2, 0, none⟩), .pointer (some ⟨SB, 0, none⟩)]) := h4
  cases sb
  ·go_region
   all_goals
    go_wp2_with fail
    rw [← H.out.2.2.2.1]
    refine H.out.1.mono ?_
    rintro e' w2 ⟨rfl, hb2⟩
    have hM2 := (hb2.block MB (lt_of_heap H.out.2.2.2.2.2.1)).trans H.out.2.2.2.2.2.1
    have cM2 : w2.cell? ⟨MB, 0, none⟩ = some (.bool true) := by rw [cell_of_block hM2]; rfl
    have HM2 := Lib.hid (And.intro hM2 hb2); clear hM2 hb2
    go_wp2_with fail
    go_ret
    rw [H.out.2.2.2.2.1]
    refine G1Post.pre Hbn.out ?_
    exact ⟨F, rfl, H.out.2.1.below V HM2.out.2, HM2.out.1, (H.out.2.2.1.mono (fun b hb => .inl (.inl hb))).then_below HM2.out.2, fun b hb => .inl hb⟩
  ·go_region
   all_goals
    go_wp2_with fail
    rw [← H.out.2.2.2.1]
    refine H.out.1.mono ?_
    rintro e' w2 ⟨rfl, hb2⟩
    obtain ⟨_, hG1, hC1, hwe, hstep, hM1, IH, hp, hks, hsb, hk1, hfar⟩ := H.out
    have hz2 := hb2.size
    have hzw := hC1.size
    have hkF : Keep Far wn w2 := fun b hb hlt => (hb2.block b (by omega)).trans (hk1 b hb hlt)
    have c2 := cell_keep h2 (hkF _ f2 (lt_of_cell h2))
    have c5 := cell_keep h5 (hkF _ f5 (lt_of_cell h5))
    have hc2 : V2 Far w2 (.slice ca cuts.length cc) cuts := hc.mono (fun _ h _ => h) hkF
    have ht2 : V2 Far w2 (.slice ta t.length tc) t := ht.mono (fun _ h _ => h) hkF
    have hk2 := hks.below hb2
    have hSk : ∀ w', Below w2.heap.size w2 w' → w'.cell? ⟨XPB, 0, none⟩ = some (.pointer (some ⟨XB, 0, none⟩)) ∧ w'.cell? ⟨CB, 0, none⟩ = some (.slice ca cuts.length cc) := fun w' hb => ⟨cell_keep c2 (hb.block _ (lt_of_cell c2)), cell_keep c5 (hb.block _ (lt_of_cell c5))⟩
    have hS0 := hSk w2.drew ((Below.refl _ _).drew)
    have HW := Lib.hid (And.intro hG1 (And.intro hC1 (And.intro hstep (And.intro hM1 (And.intro IH (And.intro hp (And.intro hks (And.intro hsb (And.intro hfar (And.intro hc2 (And.intro ht2 (And.intro hk2 hb2))))))))))))
    clear hG1 hC1 hstep hM1 IH hp hks hsb hfar hc2 ht2 hk2 hb2 hk1 hwe hw1 hc ht
    dsimp only
    go_wp2_with fail
    refine wp_region_noPanic ?_
    refine wp_region_held_drew (S := fun w' => w'.cell? ⟨XPB, 0, none⟩ = some (.pointer (some ⟨XB, 0, none⟩)) ∧ w'.cell? ⟨CB, 0, none⟩ = some (.slice ca cuts.length cc)) (by kernel_rfl) hS0 (fun hHeld => ?_)
    (refine wpAnyH_take (i := 0) (v := .pointer (some ⟨XB, 0, none⟩)) rfl (by kernel_rfl) (by kernel_rfl) (by kernel_rfl) (fun _ _ _ h => h) (Or.inl ⟨by kernel_rfl, fun w hSw => by (try dsimp only at hSw); go_split_ands; go_simp⟩) (by assumption) ?_; simp only [Act.put, List.setIfInBounds_toArray, List.set_cons_zero, List.set_cons_succ])
    (refine wpAnyH_take (i := 1) (v := .slice ca cuts.length cc) rfl (by kernel_rfl) (by kernel_rfl) (by kernel_rfl) (fun _ _ _ h => h) (Or.inl ⟨by kernel_rfl, fun w hSw => by (try dsimp only at hSw); go_split_ands; go_simp⟩) (by assumption) ?_; simp only [Act.put, List.setIfInBounds_toArray, List.set_cons_zero, List.set_cons_succ])
    (refine wpAnyH_take (i := 3) (v := .slice ka key.length kc) rfl (by kernel_rfl) (by kernel_rfl) (by kernel_rfl) (fun _ _ _ h => h) (Or.inl ⟨by kernel_rfl, fun w hSw => by (try dsimp only at hSw); go_split_ands; go_simp⟩) (by assumption) ?_; simp only [Act.put, List.setIfInBounds_toArray, List.set_cons_zero, List.set_cons_succ])
    refine wpAnyH_ready (rs := [2]) (by kernel_rfl) (by simp) (AllReadyH.cons rfl (fun K hK => ?_) AllReadyH.nil)
    go_simp
    go_at_call 172
    have hbD : Below w2.heap.size w2 w2.drew := (Below.refl _ _).drew
    refine (slClone2_any _ cuts _ (HW.out.2.2.2.2.2.2.2.2.2.1.below hbD) hcp (by omega)).mono ?_
    rintro e' wl ⟨vl, vs, rfl, hown, hvs, hbl⟩
    obtain ⟨al, cl, rfl, hl1, hl2⟩ := own_form hown
    dsimp only
    have hbl2 : Below w2.heap.size w2 wl := hbD.trans (hbl.mono hbD.size)
    have hown : wl.ownsRow w2.heap.size 35 1 (.slice al cuts.length cl) cuts.length vs := hown
    have hzl := hbl2.size
    have hSl := hSk _ hbl2
    (refine hK.out _ _ hSl (fun hHeld => ?_); clear hK K; (try simp only [Act.put, List.setIfInBounds_toArray, List.set_cons_zero, List.set_cons_succ]))
    refine wpAnyH_ready (rs := [4]) (by kernel_rfl) (by simp) (AllReadyH.cons rfl (fun K hK => ?_) AllReadyH.nil)
    go_simp
    go_at_call 140
    refine (slClone_any _ key _ (HW.out.2.2.2.2.2.2.2.2.2.2.2.1.below hbl2) hkl).mono ?_
    rintro e' wk ⟨vk, rfl, hFk, hbk⟩
    obtain ⟨ak, ck, rfl, _⟩ := hFk.v1.form
    dsimp only
    have hbk2 : Below w2.heap.size w2 wk := hbl2.trans (hbk.mono hzl)
    have hzk := hbk.size
    have hSk2 := hSk _ hbk2
    (refine hK.out _ _ hSk2 (fun hHeld => ?_); clear hK K; (try simp only [Act.put, List.setIfInBounds_toArray, List.set_cons_zero, List.set_cons_succ]))
    (refine wpAnyH_ready (rs := [5]) (by kernel_rfl) (by simp) (AllReadyH.cons rfl (fun K hK => ?_) AllReadyH.nil); go_simp)
    have hba2 : Below w2.heap.size w2 (wk.alloc (.cells #[.slice ak key.length ck] 35)) := hbk2.alloc hbk2.size _
    have hba : Below wk.heap.size wk (wk.alloc (.cells #[.slice ak key.length ck] 35)) := (Below.refl _ _).alloc (Nat.le_refl _) _
    have hSa := hSk _ hba2
    (refine hK.out _ _ hSa (fun hHeld => ?_); clear hK K; (try simp only [Act.put, List.setIfInBounds_toArray, List.set_cons_zero, List.set_cons_succ]))
    have hownk := own_keep hown hbk
    have hobl : ∀ g, Value.ownBlock (.slice al cuts.length cl) = some g → w2.heap.size ≤ g ∧ g < wl.heap.size := fun g hg => hown.lt g hg
    refine wpAnyH_ready (rs := [6]) (by kernel_rfl) (by simp) (AllReadyH.cons rfl (fun K hK => ?_) AllReadyH.nil)
    refine step_append_lies _ (by rfl) _ _ _ (by rfl) w2.heap.size 35 iC _ 1 24 Tryz.underlying26 hiC hzC0 hzC1 hzC2 rfl (by omega) _ cuts.length _ (by rfl) (own_keep hownk hba) ⟨_, 0, none⟩ 1 1 [.slice ak key.length ck] (by rfl) (by rfl) (World.news_of_block (heap_alloc_new _ _)) (by simp [Value.oneCell']) (by omega) (by unfold maxLen; omega) (by omega) (by simp; omega) _ rfl ?_
    intro gg cap w4 hown4 hgrow4 hat4 hlt4
    have hrowa : RowVs Far (wk.alloc (.cells #[.slice ak key.length ck] 35)) vs cuts := ((hvs.below hbk).below hba)
    have hkeya : V1 (fun b => w2.heap.size ≤ b ∧ Value.ownBlock (.slice al cuts.length cl) ≠ some b) (wk.alloc (.cells #[.slice ak key.length ck] 35)) (.slice ak key.length ck) key := (hFk.v1.below hba).mono (fun b hb _ => ⟨by omega, fun e => by have := (hobl b e).2; omega⟩) (fun _ _ _ => rfl)
    have hb4 : Below w2.heap.size w2 w4 := hba2.grown hgrow4 hba2.size (fun g hg => (hobl g hg).1)
    have hV4 := go_row rfl hown4 hrowa hkeya hgrow4 (fun b hb e => by have h1 := (HW.out.2.2.2.2.2.2.2.2.1 b hb).2.2; have := (hobl b e).1; omega) (Nat.le_refl _)
    have hS4 := hSk _ hb4
    have hz4 := hb4.size
    have hgl := fun b (hb : GF XB F b) => HW.out.1.glt hb
    have hop2 : falseL n t (cuts ++ [key]) = [] := by
     have h1 := HW.out.2.2.2.2.2.2.2.1
     unfold stayP openP at h1
     exact List.length_eq_zero_iff.1 (of_decide_eq_true h1)
    have hask := HW.out.2.2.2.2.1 (cuts ++ [key]) (.slice (some ⟨gg, 0, none⟩) (cuts.length + 1) cap) (s.1 + 1, s.2.1, s.2.2) F w4 (by simp; omega)
     ⟨HW.out.1.below V (HW.out.2.2.2.2.2.2.2.2.2.2.2.2.trans (hb4.mono hz2)), (HW.out.2.2.2.2.2.2.2.2.2.2.1.below hb4).mono (fun b hb _ => (HW.out.2.2.2.2.2.2.2.2.1 b hb).1) (fun _ _ _ => rfl), hV4.mono (fun b hb _ hf => by
       rcases hb with hb | hb
       ·exact (HW.out.2.2.2.2.2.2.2.2.1 b hb).1 hf
       ·have := hgl b hf; omega) (fun _ _ _ => rfl), fun e => by simp at e, HW.out.2.2.2.2.2.1.more hl hkey, hop2, hact⟩
    have Hask := Lib.hid (And.intro hask (And.intro hb4 hgl)); clear hask hV4 hrowa hkeya hown4 hgrow4 hown hownk hvs hFk hbl hbk hb4 hgl hop2 hobl
    (refine hK.out _ _ hS4 (fun hHeld => ?_); clear hK K; (try simp only [Act.put, List.setIfInBounds_toArray, List.set_cons_zero, List.set_cons_succ]))
    refine wpAnyH_ready (rs := [7]) (by kernel_rfl) (by simp) (AllReadyH.cons rfl (fun K hK => ?_) AllReadyH.nil)
    go_simp
    refine Hask.out.1.mono ?_
    rintro e' w5 ⟨F', rfl, hG5, hch5, hsub5⟩
    have hMl := lt_of_heap HW.out.2.2.2.1
    have hM4 : w4.heap[MB]? = some (.cells #[.bool true] 4 (0, 0)) := (Hask.out.2.1.block MB (by omega)).trans ((HW.out.2.2.2.2.2.2.2.2.2.2.2.2.block MB hMl).trans HW.out.2.2.2.1)
    have hM5 : w5.heap[MB]? = some (.cells #[.bool true] 4 (0, 0)) := hch5.heap hM4 hMn
    have cM5 : w5.cell? ⟨MB, 0, none⟩ = some (.bool true) := by rw [cell_of_block hM5]; rfl
    have fM5 := frozen_of_block hM5 0
    have hfx := HW.out.2.2.2.2.2.2.2.2.1
    have hMl0 := lt_of_cell cM
    have hlx := lt_of_cell h2
    have hlc := lt_of_cell h5
    have hS5 := And.intro (cell_keep hS4.1 (hch5.block XPB (lt_of_cell hS4.1) (hfx XPB f2).1)) (cell_keep hS4.2 (hch5.block CB (lt_of_cell hS4.2) (hfx CB f5).1))
    obtain ⟨r, hr⟩ : ∃ r, goF limit (stayP n t) vis (keysOf m) d (cuts ++ [key]) (s.1 + 1, s.2.1, s.2.2) = r := ⟨_, rfl⟩
    rw [hr] at hG5
    have hstep := HW.out.2.2.1
    rw [hr, if_pos trivial] at hstep
    rw [hr]
    dsimp only
    (refine hK.out _ _ hS5 (fun hHeld => ?_); clear hK K; (try simp only [Act.put, List.setIfInBounds_toArray, List.set_cons_zero, List.set_cons_succ]))
    have hMx : ∀ b, GF XB F' b → MB ≠ b := fun b hb e => by
     rcases hsub5 b hb with h | h
     ·exact hMn (e ▸ h)
     ·omega
    have hG6 := hG5.keep (w' := w5.setCell ⟨MB, 0, none⟩ (.bool r.2)) V (by simp) (fun b hb => heap_setCell_other _ (fun e => hMx b hb e.symm))
    have hM6 : (w5.setCell ⟨MB, 0, none⟩ (.bool r.2)).heap[MB]? = some (.cells #[.bool r.2] 4 (0, 0)) := by rw [heap_setCell_self hM5]; rfl
    have hX2M : ¬ XPB = MB := (hfx XPB f2).2.1
    have hCBM : ¬ CB = MB := (hfx CB f5).2.1
    have hS6 := And.intro (cell_keep hS5.1 (heap_setCell_other (b := MB) (off := 0) (.bool r.2) hX2M)) (cell_keep hS5.2 (heap_setCell_other (b := MB) (off := 0) (.bool r.2) hCBM))
    have cM6 : (w5.setCell ⟨MB, 0, none⟩ (.bool r.2)).cell? ⟨MB, 0, none⟩ = some (.bool r.2) := by rw [cell_of_block hM6]; rfl
    have hC6 : Chg (fun b => GF XB F b ∨ b = MB) wn (w5.setCell ⟨MB, 0, none⟩ (.bool r.2)) :=
     ((((HW.out.2.1.mono (fun b hb => .inl (.inl hb))).then_below HW.out.2.2.2.2.2.2.2.2.2.2.2.2).then_below Hask.out.2.1).trans hch5 (fun b hb => .inl (.inl hb))).setCell (p := ⟨MB, 0, none⟩) (.inl (.inr rfl)) _
    have HF := Lib.hid (And.intro hG6 (And.intro hM6 (And.intro hC6 (And.intro hstep hsub5)))); clear hG6 hM6 hC6 hstep hsub5 hG5 hch5 hM4 hMx hr
    (refine wpAnyH_ready (rs := [8]) (by kernel_rfl) (by simp) (AllReadyH.cons rfl (fun K hK => ?_) AllReadyH.nil); go_simp)
    (refine hK.out _ _ hS6 (fun hHeld => ?_); clear hK K; (try simp only [Act.put, List.setIfInBounds_toArray, List.set_cons_zero, List.set_cons_succ]))
    refine wpAnyH_done (by kernel_rfl) (NoPanic.normal ?_) _
    go_wp2_with fail
    go_ret
    rw [HF.out.2.2.2.1]
    refine G1Post.pre Hbn.out ?_
    exact ⟨F', rfl, HF.out.1, HF.out.2.1, HF.out.2.2.1, fun b hb => by rcases HF.out.2.2.2.2 b hb with h | h; exact .inl h; right; omega⟩
set_option maxRecDepth 100000 in
theorem go1c_any {τ : Type} {act : τ → Prop} {S Far : Nat → Prop} {P : List (List Int) → Prop} {vf : FuncId} {vcaps : Array Value} {vis : τ → List (List Int) → τ × Bool} {VI : τ → (Nat → Prop) → World → Prop} (V : VisG act P vf vcaps vis VI)
  (m : Mk) (limit : Nat) (tv kv fv : Value) (XB MB FRB XPB STB CB : Nat) (key : List Int) (s : GSt τ) (F : Nat → Prop) (w : World)
  (hG : Gs m tv limit fv XB VI s F w) (hM : w.heap[MB]? = some (.cells #[.bool true] 4 (0, 0))) (fr : List Int) (fad : Addr) (frc : Nat) (h1 : w.cell? ⟨FRB, 0, none⟩ = some (.slice (some fad) fr.length frc)) (hfr : V1 Far w (.slice (some fad) fr.length frc) fr) (he : key = fr) (hk : V1 S w kv key) :
  Calls Tryz.prog 206 #[kv, .pointer (some ⟨FRB, 0, none⟩), .pointer (some ⟨XPB, 0, none⟩), .pointer (some ⟨MB, 0, none⟩), .pointer (some ⟨STB, 0, none⟩), .pointer (some ⟨CB, 0, none⟩)] w
   (G1Post m tv limit fv XB MB VI F w (s, true)) := by
 have hNe := neqSomeS
 have hed : decide (key = fr) = true := decide_eq_true he
 obtain ⟨ka, kc, rfl, hkm⟩ := hk.form
 have H := Lib.hid (And.intro hG (And.intro hM (And.intro hfr hk))); clear hG hM hfr he hk
 go_enter Tryz.func206, Tryz.ntmps206
 go_wp2_with (go_at_call 113; refine (slEqual_b _ _ key fr _ true hed H.out.2.2.2 H.out.2.2.1).mono ?_; rintro e' w' ⟨rfl, nq, rfl⟩)
 go_ret
 have hbn : Below w.heap.size w (w.drewN nq) := below_drewN (Below.refl _ _) _
 exact ⟨F, rfl, H.out.1.below V hbn, (hbn.block MB (lt_of_heap H.out.2.1)).trans H.out.2.1, Chg.of_below hbn, fun b hb => .inl hb⟩
section
variable {σ : Type} {m : Mk} {w0 : World} {F0 : Nat → Prop} {f : FuncId} {caps : Array Value} {step : σ → List Int → σ × Bool} {s0 : σ} {L : List (List Int)} {Inv : σ → (Nat → Prop) → World → Prop} {o : EK} {fv av : Value} {A : Nat → Int → Bool} {fr : List Int}
set_option maxRecDepth 100000 in
theorem eachKey_from {fad : Addr} {frc : Nat} (hm : m.ok = true) (w : World) (V : VisOk m.c.toNat w F0 f caps step s0 (genF m A fr true m.c.toNat []) Inv) (hA1 : ∀ k x, A k x = true) (hfr : FrOk m w F0 (.slice (some fad) fr.length frc) fr) (hI : Inv s0 F0 w) :
  Calls Tryz.prog 111 #[.agg #[.int .i64 m.c, .int .i64 m.d, .int .i64 m.s, .int .i64 m.e, .int .i64 m.l], .slice (some fad) fr.length frc, .nilFunc, .func (.func f) #[] caps] w
   (fun e w' => ∃ F', Inv (runL step s0 (genF m A fr true m.c.toNat [])).1 F' w' ∧ Chg F0 w w' ∧ (∀ b, F' b → F0 b ∨ w.heap.size ≤ b) ∧ e = .returned undef) := by
 have hS := neqSomeS
 have hmk := Mk.ok_iff.1 hm
 have hl : (([] : List Int).length : Int) + m.c.toNat = m.c := by simp; omega
 have Hl := Lib.hid hl; clear hl hmk
 have hES := es_make (σ := σ) m w (.slice (some fad) fr.length frc) .nilFunc (.func (.func f) #[] caps) 25 35 186 115 35 187 V.keep (V.lt _ _ _ hI) hI
 have HES := Lib.hid hES; clear hES
 have HV := Lib.hid V; clear V hI
 have HFR := Lib.hid hfr; clear hfr
 go_enter Tryz.func111, Tryz.ntmps111
 go_wp2_with fail
 refine (cut_tight hm HV.out hA1 HFR.out m.c.toNat s0 F0 _ [] _ [] [] Hl.out (fun k hk => by simp at hk) (by simp) rfl HES.out).mono ?_
 rintro e w' ⟨F', kv', rfl, hE⟩
 have HE := Lib.hid hE; clear hE
 go_wp2_with fail
 go_end0
 exact ⟨F', HE.out.inv, HE.out.chg, HE.out.sub, rfl⟩
end
theorem skip_act {τ : Type} {act : τ → Prop} {fr : List Int} {f : GSt τ → List Int → GSt τ × Bool} {s : GSt τ} {k : List Int} (hf : (f s k).2 = true → act (f s k).1.2.2) (h : act s.2.2) (h2 : (skipS fr f s k).2 = true) : act (skipS fr f s k).1.2.2 := by
 unfold skipS at h2 ⊢
 split
 ·exact h
 ·rename_i hk
  rw [if_neg hk] at h2
  exact hf h2
theorem behind_key {m : Mk} {fr x : List Int} (hc : 0 ≤ m.c) (hk : isKeyB m fr = true) (hx : x ∈ behind m fr) : isKeyB m x = true := by
 obtain ⟨L1, L2, hL⟩ := List.append_of_mem ((mem_keysOf hc).2 hk)
 rw [keys_behind hc hL] at hx
 exact (mem_keysOf hc).1 (by rw [hL]; simp [hx])
theorem from_key {m : Mk} {fr x : List Int} (hc : 0 ≤ m.c) (hk : isKeyB m fr = true) (hx : x ∈ genF m (fun _ _ => true) fr true m.c.toNat []) : isKeyB m x = true := by
 rw [genF_from hc hk] at hx
 rcases List.mem_cons.1 hx with rfl | hx
 ·exact hk
 ·exact behind_key hc hk hx
theorem gvb_ok {τ : Type} {act : τ → Prop} {P : List (List Int) → Prop} {vf : FuncId} {vcaps : Array Value} {vis : τ → List (List Int) → τ × Bool} {VI : τ → (Nat → Prop) → World → Prop} (V : VisG act P vf vcaps vis VI)
  (m : Mk) (t : List (List Int)) (n : Nat) (hn : (n : Int) = m.c) (limit : Nat) (tv cv fv : Value) (XB MB FRB XPB STB CB LB RB CB2 SB d : Nat) (cuts : List (List Int)) (s0 : GSt τ) (F0 : Nat → Prop) (w0 : World)
  (hp : PartOk m t cuts) (hl : cuts.length < t.length) (hcd : cuts.length + (d + 1) = t.length) (hop : falseL n t cuts = []) (hact : act s0.2.2) (IH : GoAny act m t n tv limit fv XB VI vis d)
  (hM0 : MB < w0.heap.size) (hx : ∀ b, F0 b → b < w0.heap.size) (hXl : XB < w0.heap.size)
  (fr : List Int) (fad : Addr) (frc : Nat) (hfk : isKeyB m fr = true) (hfr : V1 (fun b => (¬ GF XB F0 b ∧ b ≠ MB) ∧ b < w0.heap.size) w0 (.slice (some fad) fr.length frc) fr) (h1 : w0.cell? ⟨FRB, 0, none⟩ = some (.slice (some fad) fr.length frc)) (f1 : ¬ GF XB F0 FRB ∧ FRB ≠ MB) (h2 : w0.cell? ⟨XPB, 0, none⟩ = some (.pointer (some ⟨XB, 0, none⟩))) (f2 : ¬ GF XB F0 XPB ∧ XPB ≠ MB)
  (h4 : w0.cell? ⟨STB, 0, none⟩ = some (.func (.func 259) #[] #[.pointer (some ⟨LB, 0, none⟩), .pointer (some ⟨RB, 0, none⟩), .pointer (some ⟨CB2, 0, none⟩), .pointer (some ⟨SB, 0, none⟩)])) (f4 : ¬ GF XB F0 STB ∧ STB ≠ MB)
  (h5 : w0.cell? ⟨CB, 0, none⟩ = some cv) (f5 : ¬ GF XB F0 CB ∧ CB ≠ MB) (hst : StayAt (fun b => (¬ GF XB F0 b ∧ b ≠ MB) ∧ b < w0.heap.size) m t cuts (locksTo n t cuts (getl t 0).length) LB RB CB2 SB w0)
  (ht : V2 (fun b => (¬ GF XB F0 b ∧ b ≠ MB) ∧ b < w0.heap.size) w0 tv t) (hc : V2 (fun b => (¬ GF XB F0 b ∧ b ≠ MB) ∧ b < w0.heap.size) w0 cv cuts) (hcp : cuts = [] → PV cv) :
  VisOk m.c.toNat w0 (fun b => GF XB F0 b ∨ b = MB) 206 #[.pointer (some ⟨FRB, 0, none⟩), .pointer (some ⟨XPB, 0, none⟩), .pointer (some ⟨MB, 0, none⟩), .pointer (some ⟨STB, 0, none⟩), .pointer (some ⟨CB, 0, none⟩)]
   (flag (skipS fr (goStep limit (stayP n t) (goF limit (stayP n t) vis (keysOf m) d) cuts))) (s0, true) (genF m (fun _ _ => true) fr true m.c.toNat []) (GvInv m tv limit fv XB MB VI) := by
 refine ⟨enters_go, ?_, ?_, ?_⟩
 ·rintro s F w w' ⟨Fs, g1, g2, g3, g4⟩ hz hk
  exact ⟨Fs, g1.keep V hz (fun b hb => hk b ((g4 b).2 (.inl hb))), by rw [hk MB ((g4 MB).2 (.inr rfl))]; exact g2, g3, g4⟩
 ·rintro s F w ⟨Fs, g1, g2, g3, g4⟩ b hb
  rcases (g4 b).1 hb with h | rfl
  ·exact g1.glt h
  ·exact lt_of_heap g2
 ·rintro ⟨s, fl⟩ F S w v key done rest hL hr ⟨Fs, g1, g2, g3, g4⟩ hchg hsub hV hS hlen
  have hfl : fl = true := by
   rw [runL_flag] at hr
   have e1 := congrArg (fun x => x.1.2) hr
   have e2 := congrArg (fun x => x.2) hr
   exact e1.symm.trans e2
  subst hfl
  have hacs : act s.2.2 := by
   rw [runL_flag] at hr
   have e1 := congrArg (fun x => x.1.1) hr
   have e2 := congrArg (fun x => x.2) hr
   have h1 := runL_act (act := act) (f := skipS fr (goStep limit (stayP n t) (goF limit (stayP n t) vis (keysOf m) d) cuts)) (fun s k hs h3 => skip_act (fun h4 => goStep_act (vis := vis) (fun c s hs h5 => goF_act V.still hs h5) hs h4) hs h3) done s0 hact e2
   have e3 : (runL (skipS fr (goStep limit (stayP n t) (goF limit (stayP n t) vis (keysOf m) d) cuts)) s0 done).1 = s := e1
   rw [e3] at h1; exact h1
  have hkey : isKeyB m key = true := by
   have hc0 : 0 ≤ m.c := by omega
   exact from_key hc0 hfk (by rw [hL]; simp)
  have hfar : ∀ b, ((¬ GF XB F0 b ∧ b ≠ MB) ∧ b < w0.heap.size) → ¬ GF XB Fs b ∧ b ≠ MB ∧ b < w.heap.size := fun b hb => by
   refine ⟨fun h => ?_, hb.1.2, by have := hchg.size; omega⟩
   rcases hsub b ((g4 b).2 (.inl h)) with h1 | h1
   ·rcases h1 with h1 | h1
    ·exact hb.1.1 h1
    ·exact hb.1.2 h1
   ·omega
  have hkp : Keep (fun b => (¬ GF XB F0 b ∧ b ≠ MB) ∧ b < w0.heap.size) w0 w := hchg.keep fun b hb h => by
   rcases h with h | h
   ·exact hb.1.1 h
   ·exact hb.1.2 h
  have hnf : ∀ {b}, ¬ GF XB F0 b ∧ b ≠ MB → ¬ (GF XB F0 b ∨ b = MB) := fun h h' => by
   rcases h' with h' | h'
   ·exact h.1 h'
   ·exact h.2 h'
  by_cases hkf : key = fr
  ·have hfl2 : flag (skipS fr (goStep limit (stayP n t) (goF limit (stayP n t) vis (keysOf m) d) cuts)) (s, true) key = ((s, true), true) := by unfold flag skipS; rw [if_pos hkf]
   rw [hfl2]
   refine (go1c_any (Far := fun b => (¬ GF XB F0 b ∧ b ≠ MB) ∧ b < w0.heap.size) V m limit tv v fv XB MB FRB XPB STB CB key s Fs w g1 g2 fr fad frc (cell_keep h1 (hchg.block _ (lt_of_cell h1) (hnf f1))) (hfr.mono (fun _ h _ => h) hkp) hkf hV).mono ?_
   rintro e w' ⟨F', rfl, h1, h2, h3, h4⟩
   have hMw := lt_of_heap g2
   refine ⟨fun b => GF XB F' b ∨ b = MB, rfl, ⟨F', h1, h2, fun h => ?_, fun b => Iff.rfl⟩, h3.mono (fun b hb => (g4 b).2 hb), fun b hb => ?_⟩
   ·rcases h4 MB h with h | h
    ·exact g3 h
    ·omega
   ·rcases hb with hb | hb
    ·rcases h4 b hb with h | h
     ·exact .inl ((g4 b).2 (.inl h))
     ·exact .inr h
    ·exact .inl ((g4 b).2 (.inr hb))
  ·have hfl2 : flag (skipS fr (goStep limit (stayP n t) (goF limit (stayP n t) vis (keysOf m) d) cuts)) (s, true) key = (goStep limit (stayP n t) (goF limit (stayP n t) vis (keysOf m) d) cuts s key, (goStep limit (stayP n t) (goF limit (stayP n t) vis (keysOf m) d) cuts s key).2) := by unfold flag skipS; rw [if_neg hkf]
   rw [hfl2]
   refine (go1b_any (Far := fun b => (¬ GF XB F0 b ∧ b ≠ MB) ∧ b < w0.heap.size) V m t n hn limit tv cv v fv XB MB FRB XPB STB CB LB RB CB2 SB d cuts key s Fs w hp hl hcd hop hacs IH g1 g2 g3 hfar
    fr fad frc (cell_keep h1 (hchg.block _ (lt_of_cell h1) (hnf f1))) (hfr.mono (fun _ h _ => h) hkp) hkf ⟨f1, lt_of_cell h1⟩ (cell_keep h2 (hchg.block _ (lt_of_cell h2) (hnf f2))) ⟨f2, lt_of_cell h2⟩ (cell_keep h4 (hchg.block _ (lt_of_cell h4) (hnf f4))) ⟨f4, lt_of_cell h4⟩
    (cell_keep h5 (hchg.block _ (lt_of_cell h5) (hnf f5))) ⟨f5, lt_of_cell h5⟩ (hst.keep hchg.size hkp) (ht.mono (fun _ h _ => h) hkp) (hc.mono (fun _ h _ => h) hkp) hcp hV (fun b hb => ⟨fun h => hS b hb ((g4 b).2 (.inl h)), fun h => hS b hb ((g4 b).2 (.inr h))⟩) hkey).mono ?_
   rintro e w' ⟨F', rfl, h1, h2, h3, h4⟩
   have hMw := lt_of_heap g2
   refine ⟨fun b => GF XB F' b ∨ b = MB, rfl, ⟨F', h1, h2, fun h => ?_, fun b => Iff.rfl⟩, h3.mono (fun b hb => (g4 b).2 hb), fun b hb => ?_⟩
   ·rcases h4 MB h with h | h
    ·exact g3 h
    ·omega
   ·rcases hb with hb | hb
    ·rcases h4 b hb with h | h
     ·exact .inl ((g4 b).2 (.inl h))
     ·exact .inr h
    ·exact .inl ((g4 b).2 (.inr hb))
set_option maxRecDepth 100000 in
theorem go_eachb {τ : Type} {act : τ → Prop} {P : List (List Int) → Prop} {vf : FuncId} {vcaps : Array Value} {vis : τ → List (List Int) → τ × Bool} {VI : τ → (Nat → Prop) → World → Prop} (V : VisG act P vf vcaps vis VI)
  (m : Mk) (t : List (List Int)) (n : Nat) (hn : (n : Int) = m.c) (limit : Nat) (tv cv fv : Value) (XB LB RB CB2 SB MB ST d : Nat) (cuts : List (List Int)) (s : GSt τ) (F : Nat → Prop) (W WA w : World)
  (hG : Gs m tv limit fv XB VI s F W) (ht : V2 (fun b => ¬ GF XB F b) W tv t) (hc : V2 (fun b => ¬ GF XB F b) W cv cuts) (hcp : cuts = [] → PV cv) (hok : PartOk m t cuts) (hop : falseL n t cuts = []) (hact : act s.2.2) (hlt : cuts.length < t.length) (hcd : cuts.length + (d + 1) = t.length) (IH : GoAny act m t n tv limit fv XB VI vis d)
  (hbA : Below W.heap.size W WA) (hzA : WA.heap.size = W.heap.size + 3) (cA0 : WA.cell? ⟨W.heap.size, 0, none⟩ = some (.pointer (some ⟨XB, 0, none⟩))) (cA1 : WA.cell? ⟨W.heap.size + 1, 0, none⟩ = some cv) (fr : List Int) (fad : Addr) (frc : Nat) (hfk : isKeyB m fr = true) (hfr : V1 (fun b => ¬ GF XB F b) W (.slice (some fad) fr.length frc) fr) (cA2 : WA.cell? ⟨W.heap.size + 1 + 1, 0, none⟩ = some (.slice (some fad) fr.length frc))
  (M : GoMid m t cuts (locksTo n t cuts (getl t 0).length) XB F LB RB CB2 SB MB ST WA w) :
  Calls Tryz.prog 111 #[.agg #[.int .i64 m.c, .int .i64 m.d, .int .i64 m.s, .int .i64 m.e, .int .i64 m.l], .slice (some fad) fr.length frc, .nilFunc, .func (.func 206) #[] #[.pointer (some ⟨W.heap.size + 1 + 1, 0, none⟩), .pointer (some ⟨W.heap.size, 0, none⟩), .pointer (some ⟨MB, 0, none⟩), .pointer (some ⟨ST, 0, none⟩), .pointer (some ⟨W.heap.size + 1, 0, none⟩)]] w
   (fun e w' => e = .returned undef ∧ ∃ Fs, Gs m tv limit fv XB VI (runL (goStep limit (stayP n t) (goF limit (stayP n t) vis (keysOf m) d) cuts) s (behind m fr)).1 Fs w' ∧ w'.heap[MB]? = some (.cells #[.bool (runL (goStep limit (stayP n t) (goF limit (stayP n t) vis (keysOf m) d) cuts) s (behind m fr)).2] 4 (0, 0)) ∧
    Chg (fun b => GF XB F b ∨ b = MB) w w' ∧ ∀ b, GF XB Fs b → GF XB F b ∨ W.heap.size ≤ b) := by
 have hzw := M.below.size
 have hbW : Below W.heap.size W w := hbA.trans (M.below.mono (by omega))
 have hlo := M.lo
 have hMl := lt_of_heap M.hM
 have hno : ∀ b, W.heap.size ≤ b → ¬ GF XB F b := fun b hb h => by have := hG.glt h; omega
 have hdis : ∀ b, ¬ GF XB F b → b < W.heap.size → (¬ GF XB F b ∧ b ≠ MB) ∧ b < w.heap.size := fun b h h2 => ⟨⟨h, by omega⟩, by omega⟩
 have hk : Keep (fun b => ¬ GF XB F b) W w := fun b _ hlt => hbW.block b hlt
 have hV := gvb_ok V m t n hn limit tv cv fv XB MB (W.heap.size + 1 + 1) W.heap.size ST (W.heap.size + 1) LB RB CB2 SB d cuts s F w hok hlt hcd hop hact IH hMl (fun b hb => by have := hG.lt b hb; omega) (by have := lt_of_heap hG.hh; omega)
  fr fad frc hfk (hfr.mono (fun b h1 h2 => hdis b h1 h2) hk) (cell_keep cA2 (M.below.block _ (lt_of_cell cA2))) ⟨hno _ (by omega), by omega⟩ (cell_keep cA0 (M.below.block _ (lt_of_cell cA0))) ⟨hno _ (Nat.le_refl _), by omega⟩ (by rw [cell_of_block M.hT]; rfl) ⟨hno _ (by omega), hlo.2.2.symm⟩
  (cell_keep cA1 (M.below.block _ (lt_of_cell cA1))) ⟨hno _ (by omega), by omega⟩ M.st (ht.mono (fun b h1 h2 => hdis b h1 h2) hk) (hc.mono (fun b h1 h2 => hdis b h1 h2) hk) hcp
 have hI : GvInv m tv limit fv XB MB VI (s, true) (fun b => GF XB F b ∨ b = MB) w := ⟨F, hG.below V hbW, M.hM, hno _ (by omega), fun b => Iff.rfl⟩
 have hkk := isKey_iff.1 hfk
 have hfo : FrOk m w (fun b => GF XB F b ∨ b = MB) (.slice (some fad) fr.length frc) fr := by
  have hmo := Mk.ok_iff.1 hok.fits.ok
  refine ⟨hfr.mono (fun b h1 h2 => ⟨by omega, fun h => ?_⟩) hk, hkk.1, fun k hk => ?_⟩
  ·rcases h with h | h
   ·exact h1 h
   ·omega
  ·have := hkk.2.1 _ (geti_mem hk)
   omega
 have hek := eachKey_from (A := fun _ _ => true) hok.fits.ok w hV (fun _ _ => rfl) hfo hI
 rw [runL_flag, runL_from (by have := Mk.ok_iff.1 hok.fits.ok; omega) hfk] at hek
 refine hek.mono ?_
 rintro e w' ⟨F', ⟨Fs, g1, g2, g3, g4⟩, hch, hsub, rfl⟩
 refine ⟨rfl, Fs, g1, g2, hch, fun b hb => ?_⟩
 rcases hsub b ((g4 b).2 (.inl hb)) with h | h
 ·rcases h with h | h
  ·exact .inl h
  ·right; omega
 ·right; omega
end Go.Proofs.YtmaefilliggjiaaGreat
