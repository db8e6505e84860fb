/- The walk of 'laws.FnCounted'. No conditions. -/
import Derived.Test.YtmaefilliggjiaaGreatMTable
import Derived.Test.YtmaefilliggjiaaGreatMRefFirst
import Derived.Test.YtmaefilliggjiaaGreatMFindO
import Derived.Test.YtmaefilliggjiaaGreatMGhF
import Derived.Test.YtmaefilliggjiaaGreatMCntR
import Derived.Test.YtmaefilliggjiaaGreatNextI
namespace Go.Proofs.YtmaefilliggjiaaGreat
open Go.RowKit
set_option linter.unusedVariables false
set_option linter.unusedSimpArgs false
theorem F3.v3 {B : Nat} {w : World} {v : Value} {ds : List (List (List Int))} (h : F3 B w v ds) : V3 (fun _ => True) w v ds := by
 obtain ⟨vs, L, U, h⟩ := h
 exact h.old3.any
set_option maxHeartbeats 4000000 in
set_option maxRecDepth 100000 in
theorem fnCounted_walk (W : World) (v : Value) (l : List Int) (h : VB (Old W) W v l) :
  Calls Tryz.prog 7 #[v] W fun e' w' => e' = .returned (.bool true) ∧ Below W.heap.size W w' := by
 have hV := h
 obtain ⟨a, c, rfl, hm⟩ := h.form
 have HV := Lib.hid hV; clear hV h
 cases hbig : decide (4096 < l.length)
 rotate_left
 ·have Hbig := Lib.hid hbig; clear hbig
  go_enter Tryz.func7, Tryz.ntmps7
  go_wp2_with fail
  refine (big_any _ l W true Hbig.out HV.out).mono ?_
  rintro e' w' ⟨rfl, hW⟩
  subst hW
  go_wp2_with fail
  go_ret
  exact ⟨rfl, Below.refl _ _⟩
 have Hbig := Lib.hid hbig; clear hbig
 go_enter Tryz.func7, Tryz.ntmps7
 go_wp2_with fail
 refine (big_any _ l W false Hbig.out HV.out).mono ?_
 rintro e' w' ⟨rfl, hW⟩
 subst hW
 have HB := Lib.hid (Below.refl W.heap.size W)
 go_wp2_with fail
 refine (DrawCountDesigns_any _ l _ HV.out).mono ?_
 rintro e' w2 hD
 obtain ⟨m, u, T, n, rfl, hu, hb⟩ := hD.open
 obtain ⟨ua, uc, rfl, _⟩ := hu.form
 obtain ⟨w3, hw3, hb3, hz3, _, hc3, _⟩ := box_facts w2 (#[.int .i64 m.c, .int .i64 m.d, .int .i64 m.s, .int .i64 m.e, .int .i64 m.l, .slice ua T.length uc] : Array Value) 28
 have hu := Lib.hid (hu.any.below hb3)
 have Hw := Lib.hid hw3; clear hw3
 have hz_w2 := hb.size
 have HVx := Lib.hid (HV.out.below hb); clear HV; have HV := HVx; clear HVx
 have HBx := Lib.hid (HB.out.trans (hb.mono (by omega))); clear HB; have HB := HBx; clear HBx
 clear hb
 have hz_w3 := hb3.size
 have HVx := Lib.hid (HV.out.below hb3); clear HV; have HV := HVx; clear HVx
 have HBx := Lib.hid (HB.out.trans (hb3.mono (by omega))); clear HB; have HB := HBx; clear HBx
 clear hb3
 have HT := hu; clear hu
 have hxb_w3 := hc3; clear hc3
 have hzb := hz3; clear hz3
 go_wp2_with fail
 rw [← Hw.out]
 (try go_wp2_with fail)
 clear Hw
 obtain ⟨A, hA⟩ : ∃ x, cntAns m T n = x := ⟨_, rfl⟩
 have EA := Lib.hid hA; clear hA
 refine (CountDesigns_any m _ T n _ HT.out).mono ?_
 rintro e' w4 ⟨rfl, hb⟩
 rw [EA.out]
 have hxb_w4 : ∀ o, w4.cell? ⟨w2.heap.size, o, none⟩ = (#[.int .i64 m.c, .int .i64 m.d, .int .i64 m.s, .int .i64 m.e, .int .i64 m.l, .slice ua T.length uc] : Array Value)[o]? := fun o => by rw [(bcell hb).1 _ _ (by omega), hxb_w3]
 have hz_w4 := hb.size
 have HVx := Lib.hid (HV.out.below hb); clear HV; have HV := HVx; clear HVx
 have HTx := Lib.hid (HT.out.below hb); clear HT; have HT := HTx; clear HTx
 have HBx := Lib.hid (HB.out.trans (hb.mono (by omega))); clear HB; have HB := HBx; clear HBx
 clear hxb_w3
 clear hb
 go_wp2_with fail
 refine (CountDesignsR_any m _ T n _ HT.out).mono ?_
 rintro e' w5 ⟨rfl, hb⟩
 rw [EA.out]
 have hxb_w5 : ∀ o, w5.cell? ⟨w2.heap.size, o, none⟩ = (#[.int .i64 m.c, .int .i64 m.d, .int .i64 m.s, .int .i64 m.e, .int .i64 m.l, .slice ua T.length uc] : Array Value)[o]? := fun o => by rw [(bcell hb).1 _ _ (by omega), hxb_w4]
 have hz_w5 := hb.size
 have HVx := Lib.hid (HV.out.below hb); clear HV; have HV := HVx; clear HVx
 have HTx := Lib.hid (HT.out.below hb); clear HT; have HT := HTx; clear HTx
 have HBx := Lib.hid (HB.out.trans (hb.mono (by omega))); clear HB; have HB := HBx; clear HBx
 clear hxb_w4
 clear hb
 go_wp2_with fail
 obtain ⟨B, hB⟩ : ∃ x, triesAns m T n = x := ⟨_, rfl⟩
 have EB := Lib.hid hB; clear hB
 refine (CountTries_any m _ T n _ HT.out).mono ?_
 rintro e' w6 ⟨rfl, hb⟩
 rw [EB.out]
 have hxb_w6 : ∀ o, w6.cell? ⟨w2.heap.size, o, none⟩ = (#[.int .i64 m.c, .int .i64 m.d, .int .i64 m.s, .int .i64 m.e, .int .i64 m.l, .slice ua T.length uc] : Array Value)[o]? := fun o => by rw [(bcell hb).1 _ _ (by omega), hxb_w5]
 have hz_w6 := hb.size
 have HVx := Lib.hid (HV.out.below hb); clear HV; have HV := HVx; clear HVx
 have HTx := Lib.hid (HT.out.below hb); clear HT; have HT := HTx; clear HTx
 have HBx := Lib.hid (HB.out.trans (hb.mono (by omega))); clear HB; have HB := HBx; clear HBx
 clear hxb_w5
 clear hb
 go_wp2_with fail
 refine (CountTriesR_any m _ T n _ HT.out).mono ?_
 rintro e' w7 ⟨rfl, hb⟩
 rw [EB.out]
 have hxb_w7 : ∀ o, w7.cell? ⟨w2.heap.size, o, none⟩ = (#[.int .i64 m.c, .int .i64 m.d, .int .i64 m.s, .int .i64 m.e, .int .i64 m.l, .slice ua T.length uc] : Array Value)[o]? := fun o => by rw [(bcell hb).1 _ _ (by omega), hxb_w6]
 have hz_w7 := hb.size
 have HVx := Lib.hid (HV.out.below hb); clear HV; have HV := HVx; clear HVx
 have HTx := Lib.hid (HT.out.below hb); clear HT; have HT := HTx; clear HTx
 have HBx := Lib.hid (HB.out.trans (hb.mono (by omega))); clear HB; have HB := HBx; clear HBx
 clear hxb_w6
 clear hb
 go_wp2_with fail
 refine (DrawDesignsOf_any _ l _ HV.out).mono ?_
 rintro e' w8 hD
 obtain ⟨mx, ux, Tx, kx, nx, rfl, hu, hb⟩ := hD.open
 obtain ⟨uax, ucx, rfl, _⟩ := hu.form
 obtain ⟨w9, hw3, hb3, hz3, _, hc3, _⟩ := box_facts w8 (#[.int .i64 mx.c, .int .i64 mx.d, .int .i64 mx.s, .int .i64 mx.e, .int .i64 mx.l, .slice uax Tx.length ucx] : Array Value) 28
 have hu := Lib.hid (hu.any.below hb3)
 have Hw := Lib.hid hw3; clear hw3
 have hxb_w8 : ∀ o, w8.cell? ⟨w2.heap.size, o, none⟩ = (#[.int .i64 m.c, .int .i64 m.d, .int .i64 m.s, .int .i64 m.e, .int .i64 m.l, .slice ua T.length uc] : Array Value)[o]? := fun o => by rw [(bcell hb).1 _ _ (by omega), hxb_w7]
 have hz_w8 := hb.size
 have HVx := Lib.hid (HV.out.below hb); clear HV; have HV := HVx; clear HVx
 have HTx := Lib.hid (HT.out.below hb); clear HT; have HT := HTx; clear HTx
 have HBx := Lib.hid (HB.out.trans (hb.mono (by omega))); clear HB; have HB := HBx; clear HBx
 clear hxb_w7
 clear hb
 have hxb_w9 : ∀ o, w9.cell? ⟨w2.heap.size, o, none⟩ = (#[.int .i64 m.c, .int .i64 m.d, .int .i64 m.s, .int .i64 m.e, .int .i64 m.l, .slice ua T.length uc] : Array Value)[o]? := fun o => by rw [(bcell hb3).1 _ _ (by omega), hxb_w8]
 have hz_w9 := hb3.size
 have HVx := Lib.hid (HV.out.below hb3); clear HV; have HV := HVx; clear HVx
 have HTx := Lib.hid (HT.out.below hb3); clear HT; have HT := HTx; clear HTx
 have HBx := Lib.hid (HB.out.trans (hb3.mono (by omega))); clear HB; have HB := HBx; clear HBx
 clear hxb_w8
 clear hb3
 have HTx := hu; clear hu
 have hxbx_w9 := hc3; clear hc3
 have hzbx := hz3; clear hz3
 go_wp2_with fail
 rw [← Hw.out]
 (try go_wp2_with fail)
 clear Hw
 obtain ⟨C, hC⟩ : ∃ x, desAns mx Tx kx nx = x := ⟨_, rfl⟩
 have EC := Lib.hid hC; clear hC
 refine (DesignsOf_any mx _ Tx kx nx _ HTx.out).mono ?_
 rintro e' w10 ⟨r3, rfl, hR, hb⟩
 rw [EC.out] at hR ⊢
 obtain ⟨ra3, rc3, rfl, _⟩ := hR.v3.form
 have hxb_w10 : ∀ o, w10.cell? ⟨w2.heap.size, o, none⟩ = (#[.int .i64 m.c, .int .i64 m.d, .int .i64 m.s, .int .i64 m.e, .int .i64 m.l, .slice ua T.length uc] : Array Value)[o]? := fun o => by rw [(bcell hb).1 _ _ (by omega), hxb_w9]
 have hxbx_w10 : ∀ o, w10.cell? ⟨w8.heap.size, o, none⟩ = (#[.int .i64 mx.c, .int .i64 mx.d, .int .i64 mx.s, .int .i64 mx.e, .int .i64 mx.l, .slice uax Tx.length ucx] : Array Value)[o]? := fun o => by rw [(bcell hb).1 _ _ (by omega), hxbx_w9]
 have hz_w10 := hb.size
 have HVx := Lib.hid (HV.out.below hb); clear HV; have HV := HVx; clear HVx
 have HTx := Lib.hid (HT.out.below hb); clear HT; have HT := HTx; clear HTx
 have HTxx := Lib.hid (HTx.out.below hb); clear HTx; have HTx := HTxx; clear HTxx
 have HBx := Lib.hid (HB.out.trans (hb.mono (by omega))); clear HB; have HB := HBx; clear HBx
 clear hxb_w9
 clear hxbx_w9
 clear hb
 have HR3 := Lib.hid (hR.v3.any); clear hR
 go_wp2_with fail
 refine (DesignsOfR_any mx _ Tx kx nx _ HTx.out).mono ?_
 rintro e' w11 ⟨r4, rfl, hR, hb⟩
 rw [EC.out] at hR ⊢
 obtain ⟨ra4, rc4, rfl, _⟩ := hR.form
 have hxb_w11 : ∀ o, w11.cell? ⟨w2.heap.size, o, none⟩ = (#[.int .i64 m.c, .int .i64 m.d, .int .i64 m.s, .int .i64 m.e, .int .i64 m.l, .slice ua T.length uc] : Array Value)[o]? := fun o => by rw [(bcell hb).1 _ _ (by omega), hxb_w10]
 have hxbx_w11 : ∀ o, w11.cell? ⟨w8.heap.size, o, none⟩ = (#[.int .i64 mx.c, .int .i64 mx.d, .int .i64 mx.s, .int .i64 mx.e, .int .i64 mx.l, .slice uax Tx.length ucx] : Array Value)[o]? := fun o => by rw [(bcell hb).1 _ _ (by omega), hxbx_w10]
 have hz_w11 := hb.size
 have HVx := Lib.hid (HV.out.below hb); clear HV; have HV := HVx; clear HVx
 have HTx := Lib.hid (HT.out.below hb); clear HT; have HT := HTx; clear HTx
 have HTxx := Lib.hid (HTx.out.below hb); clear HTx; have HTx := HTxx; clear HTxx
 have HR3x := Lib.hid (HR3.out.below hb); clear HR3; have HR3 := HR3x; clear HR3x
 have HBx := Lib.hid (HB.out.trans (hb.mono (by omega))); clear HB; have HB := HBx; clear HBx
 clear hxb_w10
 clear hxbx_w10
 clear hb
 have HR4 := Lib.hid (hR.any); clear hR
 obtain ⟨A1, A2⟩ := A
 obtain ⟨B1, B2⟩ := B
 obtain ⟨C1, C2⟩ := C
 dsimp only at *
 go_wp2_with fail
 go_loopw [20] (fun iv wr => ∃ i : Nat, i ≤ C1.length ∧ iv = .int .i64 (i : Int) ∧ Below w11.heap.size w11 wr) (fun iv _ => C1.length - (intOf iv).toNat)
 case atStart => exact ⟨0, Nat.zero_le _, rfl, Below.refl _ _⟩
 case round =>
  obtain ⟨i, hi, rfl, hbr⟩ := hrel
  have Hbr := Lib.hid hbr
  obtain ⟨wA, rfl⟩ : ∃ x, x = wr := ⟨_, rfl⟩
  have hxb_wA : ∀ o, wA.cell? ⟨w2.heap.size, o, none⟩ = (#[.int .i64 m.c, .int .i64 m.d, .int .i64 m.s, .int .i64 m.e, .int .i64 m.l, .slice ua T.length uc] : Array Value)[o]? := fun o => by rw [(bcell hbr).1 _ _ (by omega), hxb_w11]
  have hxbx_wA : ∀ o, wA.cell? ⟨w8.heap.size, o, none⟩ = (#[.int .i64 mx.c, .int .i64 mx.d, .int .i64 mx.s, .int .i64 mx.e, .int .i64 mx.l, .slice uax Tx.length ucx] : Array Value)[o]? := fun o => by rw [(bcell hbr).1 _ _ (by omega), hxbx_w11]
  have hz_wA := hbr.size
  have HVx := Lib.hid (HV.out.below hbr); clear HV; have HV := HVx; clear HVx
  have HTx := Lib.hid (HT.out.below hbr); clear HT; have HT := HTx; clear HTx
  have HTxx := Lib.hid (HTx.out.below hbr); clear HTx; have HTx := HTxx; clear HTxx
  have HR3x := Lib.hid (HR3.out.below hbr); clear HR3; have HR3 := HR3x; clear HR3x
  have HR4x := Lib.hid (HR4.out.below hbr); clear HR4; have HR4 := HR4x; clear HR4x
  have HBx := Lib.hid (HB.out.trans (hbr.mono (by omega))); clear HB; have HB := HBx; clear HBx
  clear hxb_w11
  clear hxbx_w11
  clear hbr
  by_cases hiC : i < C1.length
  ·skip
   have hid : decide (i < C1.length) = true := decide_eq_true hiC
   have hid2 : decide ((i : Int) < (C1.length : Int)) = true := decide_eq_true (by omega)
   obtain ⟨b1, o1, a1, c1, rfl, _, hc1, hrow1⟩ := HR3.out.cell hiC
   obtain ⟨b2, o2, a2, c2, rfl, _, hc2, hrow2⟩ := HR4.out.cell hiC
   obtain ⟨X, hX⟩ : ∃ X, getll C1 i = X := ⟨_, rfl⟩
   rw [hX] at hc1 hrow1 hc2 hrow2
   have hiCn : ¬ C1.length ≤ i := by omega
   have Hq := Lib.hid (And.intro hrow1.any (And.intro hrow2.any hX)); clear hrow1 hrow2 hX
   go_wp2_with fail
   have hqq := fun w0 : World => fun (h1 : V2 (fun _ => True) w0 (.slice a1 X.length c1) X) (h2 : V2 (fun _ => True) w0 (.slice a2 X.length c2) X) => likeLists_b _ _ X X w0 true (decide_eq_true rfl) h1 h2
   have hr1 := Hq.out.1
   have hr2 := Hq.out.2.1
   go_quiet ((go_at_call 16; exact quiet_at0 (hqq _ (V2.drewN hr1) (V2.drewN hr2))))
   go_wp2_with fail
   go_roundw
   case rel => exact ⟨i + 1, by omega, by go_num, Hbr.out.trans (by first | exact Below.refl _ _ | exact below_drewN (Below.refl _ _) _)⟩
   case measure => simp [intOf]; omega
  obtain rfl : i = C1.length := by omega
  by_cases ha : A2 = 0
  rotate_left
  ·skip
   have had : (A2 != 0) = true := by simp [ha]
   have hb : B2 = A2 := by
    have h1 := EA.out
    have h2 := EB.out
    unfold cntAns at h1
    unfold triesAns at h2
    split at h1
    ·rename_i h0; rw [if_pos h0] at h2; rw [Prod.mk.injEq] at h1 h2; exact h2.2.symm.trans h1.2
    ·rename_i h0; rw [if_neg h0] at h2
     split at h1
     ·rename_i h3; rw [if_pos h3] at h2; rw [Prod.mk.injEq] at h1 h2; exact h2.2.symm.trans h1.2
     ·rename_i h3; rw [if_neg h3] at h2; rw [Prod.mk.injEq] at h1 h2; exact h2.2.symm.trans h1.2
   subst hb
   clear ha
   go_wp2_with fail
   go_ret
   exact ⟨rfl, HB.out⟩
  subst ha
  have hca := cnt_all EA.out
  have HCA := Lib.hid hca; clear hca
  by_cases h40 : 40 < A1
  ·have h40d : decide (40 < A1) = true := decide_eq_true h40
   clear h40
   go_wp2_with fail
   go_ret
   exact ⟨rfl, HB.out⟩
  have h40d : decide (40 < A1) = false := decide_eq_false h40
  have hLn : (allD m T).length ≤ 40 ∧ A1 = ((allD m T).length : Int) := by have := HCA.out.2.2; omega
  clear h40
  obtain ⟨Lq, hLq⟩ : ∃ L, allD m T = L := ⟨_, rfl⟩
  rw [hLq] at hLn
  obtain ⟨hL40, rfl⟩ := hLn
  have HLq := Lib.hid hLq; clear hLq
  go_wp2_with fail
  refine (FindDesign_any m _ T n _ HT.out).mono ?_
  rintro e' w12 ⟨r5, rfl, hR, hb⟩
  obtain ⟨F, hF⟩ : ∃ x, findAns m T [] n = x := ⟨_, rfl⟩
  rw [hF] at hR ⊢
  have hfa := first_all HCA.out.1 HCA.out.2.1
  rw [hF, HLq.out] at hfa
  obtain ⟨F1, F2, F3⟩ := F
  dsimp only at hR hfa ⊢
  have hst : (F3 = 4 ∧ Lq = []) ∨ (F3 = 0 ∧ ∃ xs, Lq = F1 :: xs) := by
   cases hl : Lq with
   | nil => exact .inl ⟨hfa.1 hl, rfl⟩
   | cons y ys =>
     obtain ⟨k, hk⟩ := hfa.2 y ys hl
     rw [Prod.mk.injEq, Prod.mk.injEq] at hk
     exact .inr ⟨hk.2.2, ys, by rw [hk.1]⟩
  have Hst := Lib.hid hst; clear hst hfa hF
  have hR5 := hR.v2.any
  clear hR
  have hxb_w12 : ∀ o, w12.cell? ⟨w2.heap.size, o, none⟩ = (#[.int .i64 m.c, .int .i64 m.d, .int .i64 m.s, .int .i64 m.e, .int .i64 m.l, .slice ua T.length uc] : Array Value)[o]? := fun o => by rw [(bcell hb).1 _ _ (by omega), hxb_wA]
  have hxbx_w12 : ∀ o, w12.cell? ⟨w8.heap.size, o, none⟩ = (#[.int .i64 mx.c, .int .i64 mx.d, .int .i64 mx.s, .int .i64 mx.e, .int .i64 mx.l, .slice uax Tx.length ucx] : Array Value)[o]? := fun o => by rw [(bcell hb).1 _ _ (by omega), hxbx_wA]
  have hz_w12 := hb.size
  have HVx := Lib.hid (HV.out.below hb); clear HV; have HV := HVx; clear HVx
  have HTx := Lib.hid (HT.out.below hb); clear HT; have HT := HTx; clear HTx
  have HTxx := Lib.hid (HTx.out.below hb); clear HTx; have HTx := HTxx; clear HTxx
  have HR3x := Lib.hid (HR3.out.below hb); clear HR3; have HR3 := HR3x; clear HR3x
  have HR4x := Lib.hid (HR4.out.below hb); clear HR4; have HR4 := HR4x; clear HR4x
  have HBx := Lib.hid (HB.out.trans (hb.mono (by omega))); clear HB; have HB := HBx; clear HBx
  clear hxb_wA
  clear hxbx_wA
  clear hb
  have HR5 := Lib.hid hR5; clear hR5
  go_wp2_with fail
  go_loopw [21, 22, 24] (fun cv dv fv wr => ∃ (l1 rest : List (List (List Int))) (x : List (List Int)) (f : Int), Lq = l1 ++ rest ∧ cv = .int .i64 (l1.length : Int) ∧ fv = .int .i64 f ∧ ((f = 4 ∧ rest = []) ∨ (f = 0 ∧ ∃ xs, rest = x :: xs)) ∧ V2 (fun _ => True) wr dv x ∧ Below w12.heap.size w12 wr) (fun cv _ _ _ => 41 - (intOf cv).toNat)
  case atStart => exact ⟨[], Lq, F1, F3, rfl, rfl, rfl, Hst.out, HR5.out, Below.refl _ _⟩
  case round =>
   obtain ⟨l1, rest, x, f, hl, rfl, rfl, hfr, hV, hbr⟩ := hrel
   obtain ⟨da, dc, rfl, _⟩ := hV.form
   have Hbr := Lib.hid hbr
   have HV5 := Lib.hid hV; clear hV
   obtain ⟨wC, rfl⟩ : ∃ y, y = wr := ⟨_, rfl⟩
   have hxb_wC : ∀ o, wC.cell? ⟨w2.heap.size, o, none⟩ = (#[.int .i64 m.c, .int .i64 m.d, .int .i64 m.s, .int .i64 m.e, .int .i64 m.l, .slice ua T.length uc] : Array Value)[o]? := fun o => by rw [(bcell hbr).1 _ _ (by omega), hxb_w12]
   have hxbx_wC : ∀ o, wC.cell? ⟨w8.heap.size, o, none⟩ = (#[.int .i64 mx.c, .int .i64 mx.d, .int .i64 mx.s, .int .i64 mx.e, .int .i64 mx.l, .slice uax Tx.length ucx] : Array Value)[o]? := fun o => by rw [(bcell hbr).1 _ _ (by omega), hxbx_w12]
   have hz_wC := hbr.size
   have HVx := Lib.hid (HV.out.below hbr); clear HV; have HV := HVx; clear HVx
   have HTx := Lib.hid (HT.out.below hbr); clear HT; have HT := HTx; clear HTx
   have HTxx := Lib.hid (HTx.out.below hbr); clear HTx; have HTx := HTxx; clear HTxx
   have HR3x := Lib.hid (HR3.out.below hbr); clear HR3; have HR3 := HR3x; clear HR3x
   have HR4x := Lib.hid (HR4.out.below hbr); clear HR4; have HR4 := HR4x; clear HR4x
   have HBx := Lib.hid (HB.out.trans (hbr.mono (by omega))); clear HB; have HB := HBx; clear HBx
   clear hxb_w12
   clear hxbx_w12
   clear hbr
   have hll : l1.length + rest.length = Lq.length := by rw [hl, List.length_append]
   obtain ⟨l1n, hl1n⟩ : ∃ q, l1.length = q := ⟨_, rfl⟩
   rw [hl1n] at hll ⊢
   have HL := Lib.hid (And.intro hl hl1n); clear hl hl1n
   rcases hfr with ⟨rfl, hrest⟩ | ⟨rfl, xs, hrest⟩
   ·skip
    have e1 : (l1n : Int) = (Lq.length : Int) := by rw [hrest] at hll; simp only [List.length_nil] at hll; omega
    obtain ⟨Ln, hLn⟩ : ∃ q : Int, (Lq.length : Int) = q := ⟨_, rfl⟩
    rw [hLn] at e1 ⊢
    have HLn := Lib.hid hLn; clear hLn
    rw [e1]
    clear e1 hll hrest
    go_wp2_with fail
    go_ret
    exact ⟨rfl, HB.out⟩
   have hlt : l1n + 1 ≤ Lq.length := by rw [hrest] at hll; simp only [List.length_cons] at hll; omega
   have hcn : decide ((Lq.length : Int) < (l1n : Int) + 1) = false := decide_eq_false (by omega)
   have hw1 : wrap64 ((l1n : Int) + 1) = (l1n : Int) + 1 := IntWalk.wrap64_in _ (by omega)
   have hx : x ∈ allD m T := by rw [HLq.out, HL.out.1, hrest]; simp
   have hsy : isSys m T = true := (searchC_ok.1 HCA.out.1).1.sys
   have had := all_design hsy hx
   have hna := next_all HCA.out.1 HCA.out.2.1 (l1 := l1) (x := x) (l2 := xs) (by rw [HLq.out, HL.out.1, hrest])
   have hxn : x ≠ [] := fun e => by
    have h1 := had.2.2.1
    rw [e] at h1
    have := (PartOk.nil hsy).fits.rows
    simp only [List.length_nil] at h1
    omega
   have HX := Lib.hid (And.intro had.1 (And.intro hna hxn)); clear hx hsy had hna hxn hll
   go_wp2_with fail
   refine (IsDesign_b m _ _ T x _ true HX.out.1 HT.out HV5.out).mono ?_
   rintro e' w13 ⟨rfl, hb⟩
   have Hc1 := Lib.hid (Hbr.out.trans (hb.mono (by have := Hbr.out.size; omega)))
   have hxb_w13 : ∀ o, w13.cell? ⟨w2.heap.size, o, none⟩ = (#[.int .i64 m.c, .int .i64 m.d, .int .i64 m.s, .int .i64 m.e, .int .i64 m.l, .slice ua T.length uc] : Array Value)[o]? := fun o => by rw [(bcell hb).1 _ _ (by omega), hxb_wC]
   have hxbx_w13 : ∀ o, w13.cell? ⟨w8.heap.size, o, none⟩ = (#[.int .i64 mx.c, .int .i64 mx.d, .int .i64 mx.s, .int .i64 mx.e, .int .i64 mx.l, .slice uax Tx.length ucx] : Array Value)[o]? := fun o => by rw [(bcell hb).1 _ _ (by omega), hxbx_wC]
   have hz_w13 := hb.size
   have HVx := Lib.hid (HV.out.below hb); clear HV; have HV := HVx; clear HVx
   have HTx := Lib.hid (HT.out.below hb); clear HT; have HT := HTx; clear HTx
   have HTxx := Lib.hid (HTx.out.below hb); clear HTx; have HTx := HTxx; clear HTxx
   have HR3x := Lib.hid (HR3.out.below hb); clear HR3; have HR3 := HR3x; clear HR3x
   have HR4x := Lib.hid (HR4.out.below hb); clear HR4; have HR4 := HR4x; clear HR4x
   have HV5x := Lib.hid (HV5.out.below hb); clear HV5; have HV5 := HV5x; clear HV5x
   have HBx := Lib.hid (HB.out.trans (hb.mono (by omega))); clear HB; have HB := HBx; clear HBx
   clear hxb_wC
   clear hxbx_wC
   clear hb
   go_wp2_with fail
   refine (NextDesign_any m _ _ T x n _ HT.out HV5.out (fun e => absurd e HX.out.2.2)).mono ?_
   rintro e' w14 ⟨r6, rfl, hR, hb⟩
   obtain ⟨N, hN⟩ : ∃ y, nextDAns m T x n = y := ⟨_, rfl⟩
   rw [hN] at hR ⊢
   have hna := HX.out.2.1
   rw [hN] at hna
   obtain ⟨N1, N2⟩ := N
   dsimp only at hR hna ⊢
   have hst : (N2 = 4 ∧ xs = []) ∨ (N2 = 0 ∧ ∃ ys, xs = N1 :: ys) := by
    cases hl : xs with
    | nil => exact .inl ⟨hna.1 hl, rfl⟩
    | cons y ys =>
      have hk := hna.2 y ys hl
      rw [Prod.mk.injEq] at hk
      exact .inr ⟨hk.2, ys, by rw [hk.1]⟩
   have Hst2 := Lib.hid hst; clear hst hna hN
   have Hc2 := Lib.hid (Hc1.out.trans (hb.mono (by have := Hc1.out.size; omega)))
   have hR6 := hR.v2.any
   obtain ⟨ra6, rc6, rfl, _⟩ := hR6.form
   clear hR
   have hxb_w14 : ∀ o, w14.cell? ⟨w2.heap.size, o, none⟩ = (#[.int .i64 m.c, .int .i64 m.d, .int .i64 m.s, .int .i64 m.e, .int .i64 m.l, .slice ua T.length uc] : Array Value)[o]? := fun o => by rw [(bcell hb).1 _ _ (by omega), hxb_w13]
   have hxbx_w14 : ∀ o, w14.cell? ⟨w8.heap.size, o, none⟩ = (#[.int .i64 mx.c, .int .i64 mx.d, .int .i64 mx.s, .int .i64 mx.e, .int .i64 mx.l, .slice uax Tx.length ucx] : Array Value)[o]? := fun o => by rw [(bcell hb).1 _ _ (by omega), hxbx_w13]
   have hz_w14 := hb.size
   have HVx := Lib.hid (HV.out.below hb); clear HV; have HV := HVx; clear HVx
   have HTx := Lib.hid (HT.out.below hb); clear HT; have HT := HTx; clear HTx
   have HTxx := Lib.hid (HTx.out.below hb); clear HTx; have HTx := HTxx; clear HTxx
   have HR3x := Lib.hid (HR3.out.below hb); clear HR3; have HR3 := HR3x; clear HR3x
   have HR4x := Lib.hid (HR4.out.below hb); clear HR4; have HR4 := HR4x; clear HR4x
   have HBx := Lib.hid (HB.out.trans (hb.mono (by omega))); clear HB; have HB := HBx; clear HBx
   clear hxb_w13
   clear hxbx_w13
   clear hb
   have HR6 := Lib.hid hR6; clear hR6
   go_wp2_with fail
   clear hw1 hcn
   go_roundw
   case rel => exact ⟨l1 ++ [x], xs, N1, N2, by rw [HL.out.1, hrest]; simp, by rw [List.length_append, HL.out.2]; simp, rfl, Hst2.out, HR6.out, Hc2.out⟩
   case measure => simp [intOf]; omega
end Go.Proofs.YtmaefilliggjiaaGreat
