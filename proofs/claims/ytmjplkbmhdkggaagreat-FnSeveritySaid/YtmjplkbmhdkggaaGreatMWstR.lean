/- The worst ghosts, as the reference gives them. No conditions. -/
import Derived.Test.YtmjplkbmhdkggaaGreatMWorst
import Derived.Test.YtmjplkbmhdkggaaGreatMWstO
import Derived.Test.YtmjplkbmhdkggaaGreatMDraw11
import Derived.Test.YtmjplkbmhdkggaaGreatMGhosts
namespace Go.Proofs.YtmjplkbmhdkggaaGreat
open Go.RowKit
set_option linter.unusedVariables false
set_option linter.unusedSimpArgs false
theorem take_pre {P Q : List (List Int)} {M : Nat} (h : P <+: Q) (hl : M ≤ (P.take M).length) : P.take M = Q.take M := by
 obtain ⟨R, rfl⟩ := h
 rw [List.length_take] at hl
 rw [List.take_append_of_le_length (by omega)]
def wlv (locks : List (List (List Int))) (L A : List (List Int)) (p i : Nat) : List (List Int) := A ++ lvlL locks (L.take i) p
theorem wlv_0 (locks : List (List (List Int))) (L A : List (List Int)) (p : Nat) : wlv locks L A p 0 = A := by simp [wlv, lvlL]
theorem wlv_hit {locks : List (List (List Int))} {L A : List (List Int)} {p i : Nat} (hi : i < L.length) (h : ndoors locks (getl L i) = p) : wlv locks L A p (i + 1) = wlv locks L A p i ++ [getl L i] := by
 unfold wlv lvlL
 rw [take_getl hi, List.filter_append, List.append_assoc]
 simp [h]
theorem wlv_miss {locks : List (List (List Int))} {L A : List (List Int)} {p i : Nat} (hi : i < L.length) (h : ndoors locks (getl L i) ≠ p) : wlv locks L A p (i + 1) = wlv locks L A p i := by
 unfold wlv lvlL
 rw [take_getl hi, List.filter_append]
 simp [h]
theorem wlv_pre {locks : List (List (List Int))} {L A : List (List Int)} {p i : Nat} : wlv locks L A p i <+: A ++ lvlL locks L p := by
 unfold wlv lvlL
 exact (List.prefix_append_right_inj _).2 ((List.take_prefix i L).filter _)
theorem wlv_end {locks : List (List (List Int))} {L A : List (List Int)} {p i M : Nat} (h : ¬ (i < L.length ∧ ((wlv locks L A p i).take M).length < M)) : (wlv locks L A p i).take M = (A ++ lvlL locks L p).take M := by
 by_cases hi : i < L.length
 ·exact take_pre wlv_pre (by omega)
 ·unfold wlv; rw [List.take_of_length_le (show L.length ≤ i by omega)]
theorem take_snoc {P : List (List Int)} {x : List Int} {M : Nat} (h : (P.take M).length < M) : (P ++ [x]).take M = P.take M ++ [x] := by
 rw [List.length_take] at h
 rw [List.take_of_length_le (by simp; omega), List.take_of_length_le (show P.length ≤ M by omega)]
set_option maxRecDepth 100000 in
set_option maxHeartbeats 2000000 in
theorem WorstGhostsR_any {S S' : Nat → Prop} (m : Mk) (u v : Value) (t cuts : List (List Int)) (most : Int) (W : World) (h : V2 S W u t) (hc : V2 S' W v cuts) :
  Calls Tryz.prog 9 #[.agg #[.int .i64 m.c, .int .i64 m.d, .int .i64 m.s, .int .i64 m.e, .int .i64 m.l, u], v, .int .i64 most] W fun e' w' => ∃ v', e' = .returned (.tuple #[v', .int .i64 (wghAns m t cuts most).2]) ∧ V2 (fun b => b < w'.heap.size) w' v' (wghAns m t cuts most).1 ∧ Below W.heap.size W w' := by
 obtain ⟨a, c, rfl, hmx⟩ := h.form
 obtain ⟨a', c', rfl, hmx'⟩ := hc.form
 obtain ⟨W1, hW1, hB01, hz01, HZ01, hc01, hh01⟩ := box_facts W #[.int .i64 m.c, .int .i64 m.d, .int .i64 m.s, .int .i64 m.e, .int .i64 m.l, .slice a t.length c] 33
 have hV1 := (h.below hB01).old
 have hC1 := (hc.below hB01).old
 have hcode := l21Code_any m _ _ t cuts W1 hV1 hC1
 by_cases hp : designC m t cuts = 0
 ·rw [hp] at hcode
  have hf := (design_fits hp).1
  have hmc := mc_nat hf.ok
  cases hi : inB most 0 300
  ·have hfin : wghAns m t cuts most = ([], 2) := by unfold wghAns; rw [if_neg (by rw [hp]; decide), if_pos hi]
   rw [hfin]
   have Hp := Lib.hid (And.intro hp (And.intro hf (And.intro hmc hfin))); clear hp hf hmc hfin
   have Hi := Lib.hid hi; clear hi
   go_enter Tryz.func9, Tryz.ntmps9
   go_wp2_with fail
   rw [← hW1]
   refine hcode.mono ?_
   rintro e' w2 ⟨rfl, hb2⟩
   have hx2 : ∀ o, w2.cell? ⟨W.heap.size, o, none⟩ = (#[.int .i64 m.c, .int .i64 m.d, .int .i64 m.s, .int .i64 m.e, .int .i64 m.l, .slice a t.length c] : Array Value)[o]? := fun o => by rw [(bcell hb2).1 _ _ hz01, hc01]
   have hz2 : W.heap.size < w2.heap.size := by have := hb2.size; omega
   clear hh01
   go_wp2_with (go_at_call 53; refine (l01In_b _ _ _ _ _ Hi.out).mono ?_; rintro e' w' ⟨rfl, rfl⟩)
   go_ret2
   exact ⟨_, rfl, (F2.nil0 (B := 0)).v2.old, hB01.trans (hb2.mono (by omega))⟩
  ·have hm := inB_iff.1 hi
   have hfin : wghAns m t cuts most = ((frontL (locksTo m.c.toNat t cuts (getl t 0).length) (selL (locksTo m.c.toNat t cuts (getl t 0).length) cuts true (keysOf m)) (getl t 0).length (getl t 0).length).take most.toNat, 0) := by unfold wghAns; rw [if_neg (by rw [hp]; decide), if_neg (by rw [hi]; decide)]
   rw [hfin]
   obtain ⟨M, rfl⟩ : ∃ M : Nat, most = (M : Int) := ⟨most.toNat, by omega⟩
   rw [show ((M : Int)).toNat = M from rfl]
   have hM : M ≤ 300 := by omega
   have hkl := keysOf_length hf.ok
   have hmk := Mk.ok_iff.1 hf.ok
   have hrows := hf.rows
   have hdoors := hf.doors
   obtain ⟨b0, off0, a0, c0, rfl, _, hcc0, hr0⟩ := hV1.cell (k := 0) (by omega)
   simp only [Nat.add_zero] at hcc0
   have hout := l21Outsiders_any (S := fun _ => True) (S' := fun _ => True) m (.slice (some ⟨b0, off0, none⟩) t.length c) (.slice a' cuts.length c') t cuts m.c.toNat true
   have hdo := fun (kv : Value) (key : List Int) => l16Doors_any (S := fun _ => True) (S' := fun _ => True) (S2 := fun _ => True) m (.slice (some ⟨b0, off0, none⟩) t.length c) (.slice a' cuts.length c') kv t cuts key m.c.toNat
   obtain ⟨locks, hlocks⟩ : ∃ x, x = locksTo m.c.toNat t cuts (getl t 0).length := ⟨_, rfl⟩
   rw [← hlocks] at hout ⊢
   simp only [← hlocks] at hdo
   obtain ⟨L, hL⟩ : ∃ x, selL locks cuts true (keysOf m) = x := ⟨_, rfl⟩
   have hLl : L.length ≤ 262144 := by rw [← hL]; exact Nat.le_trans (selL_length _ _ _ _) hkl
   have hmem : ∀ i, i < L.length → (getl L i).length ≤ m.c.toNat := fun i hi => by
    have h1 := getl_mem hi
    rw [← hL] at h1
    unfold selL at h1
    rw [List.mem_filter] at h1
    have h2 := (isKey_iff.1 ((mem_keysOf (by omega)).1 h1.1)).1
    have h5 : ((getl L i).length : Int) = m.c := by rw [← hL]; exact h2
    omega
   rw [hL] at hout ⊢
   obtain ⟨D, hD⟩ : ∃ D, (getl t 0).length = D := ⟨_, rfl⟩
   rw [hD] at hcc0 hdoors ⊢
   have ht0 : ¬ t.length ≤ 0 := by omega
   have ht1 : (0 : Int) < (t.length : Int) := by omega
   have Hp := Lib.hid (And.intro hp (And.intro hf (And.intro hmc (And.intro hout (And.intro hdo (And.intro hmem (And.intro hcc0 (And.intro hL (And.intro hlocks hD))))))))); clear hp hf hmc hfin hout hdo hmem hcc0 hL hlocks hD hkl hmk hr0
   have Hi := Lib.hid hi; clear hi
   have Hm := Lib.hid hm; clear hm
   go_enter Tryz.func9, Tryz.ntmps9
   go_wp2_with fail
   rw [← hW1]
   refine hcode.mono ?_
   rintro e' w2 ⟨rfl, hb2⟩
   have hx2 : ∀ o, w2.cell? ⟨W.heap.size, o, none⟩ = (#[.int .i64 m.c, .int .i64 m.d, .int .i64 m.s, .int .i64 m.e, .int .i64 m.l, .slice (some ⟨b0, off0, none⟩) t.length c] : Array Value)[o]? := fun o => by rw [(bcell hb2).1 _ _ hz01, hc01]
   have hz2 : W.heap.size < w2.heap.size := by have := hb2.size; omega
   clear hh01
   go_wp2_with (go_at_call 53; refine (l01In_b _ _ _ _ _ Hi.out).mono ?_; rintro e' w' ⟨rfl, rfl⟩)
   refine (Hp.out.2.2.2.1 _ Hp.out.2.1 Hp.out.2.2.1 (hV1.below hb2).any (hC1.below hb2).any).mono ?_
   rintro e' w3 ⟨v3, rfl, hF3, hb3⟩
   obtain ⟨a3, c3, rfl, hm3⟩ := hF3.form
   have hb13 := hb2.trans (hb3.mono hb2.size)
   have hz3 : W.heap.size < w3.heap.size := by have := hb3.size; omega
   have hown0 := own_lit0 w3 w3.heap.size 44 1 (Nat.le_refl _)
   obtain ⟨w4, hw4⟩ : ∃ x, x = w3.alloc (.cells #[] 44) := ⟨_, rfl⟩
   have hb4 : Below w3.heap.size w3 w4 := by rw [hw4]; exact (Below.refl _ _).alloc (Nat.le_refl _) _
   rw [← hw4] at hown0
   have hb14 := hb13.trans (hb4.mono hb13.size)
   have hx4 : ∀ o, w4.cell? ⟨W.heap.size, o, none⟩ = (#[.int .i64 m.c, .int .i64 m.d, .int .i64 m.s, .int .i64 m.e, .int .i64 m.l, .slice (some ⟨b0, off0, none⟩) t.length c] : Array Value)[o]? := fun o => by rw [(bcell hb14).1 _ _ hz01, hc01]
   have hcc4 := cell_keep Hp.out.2.2.2.2.2.2.1 (hb14.block _ (lt_of_cell Hp.out.2.2.2.2.2.2.1))
   have hx4b : ∀ o, (w3.alloc (.cells #[] 44)).cell? ⟨W.heap.size, o, none⟩ = (#[.int .i64 m.c, .int .i64 m.d, .int .i64 m.s, .int .i64 m.e, .int .i64 m.l, .slice (some ⟨b0, off0, none⟩) t.length c] : Array Value)[o]? := fun o => by rw [← hw4]; exact hx4 o
   have hcc4b : (w3.alloc (.cells #[] 44)).cell? ⟨b0, off0, none⟩ = some (.slice a0 D c0) := by rw [← hw4]; exact hcc4
   have HF3 := Lib.hid hF3; clear hF3 hx2 hx4 hcc4
   have H4 := Lib.hid (And.intro hw4 (And.intro hown0 (And.intro hb4 (And.intro hb13 hc01)))); clear hw4 hown0 hb4 hb13 hb14 hc01 hb2 hb3
   go_wp2_with fail
   rw [← H4.out.1]
   clear hx4b hcc4b
   go_loopw [10, 11, 12] (fun ou nv _ wr => ∃ p : Nat, p ≤ D ∧ nv = .int .i64 (p : Int) ∧ OV 0 wr ou ((frontL locks L D (D - p)).take M) ∧ (∀ g, ou.ownBlock = some g → w3.heap.size ≤ g) ∧ Below w3.heap.size w3 wr) (fun _ nv _ _ => (intOf nv).toNat)
   case atStart => exact ⟨D, Nat.le_refl _, rfl, by rw [Nat.sub_self, show frontL locks L D 0 = [] from rfl, List.take_nil]; exact OV.nil (own_base H4.out.2.1 (Nat.zero_le _)), fun g hg => by have := (H4.out.2.1.lt g hg).1; omega, H4.out.2.2.1⟩
   case round =>
    obtain ⟨p, hpD, rfl, hO, hob, hbr⟩ := hrel
    obtain ⟨oa, oc, rfl, _, _⟩ := hO.form
    have hzr := hbr.size
    by_cases hp0 : 0 < p
    ·have hA : frontL locks L D (D - (p - 1)) = frontL locks L D (D - p) ++ lvlL locks L p := by
      rw [show D - (p - 1) = (D - p) + 1 by omega]
      show frontL locks L D (D - p) ++ lvlL locks L (D - (D - p)) = _
      rw [show D - (D - p) = p by omega]
     obtain ⟨A, hAe⟩ : ∃ A, frontL locks L D (D - p) = A := ⟨_, rfl⟩
     rw [hAe] at hA hO hob ⊢
     have hw0 := wlv_0 locks L A p
     rw [← hw0] at hO hob ⊢
     have HA := Lib.hid (And.intro hA (And.intro hAe hw0)); clear hA hAe hw0
     have HO := Lib.hid (And.intro hO (And.intro hob hbr)); clear hO hob hbr
     go_wp2_with fail
     go_loopw [10, 12] (fun ou iv wq => ∃ i : Nat, i ≤ L.length ∧ iv = .int .i64 (i : Int) ∧ OV 0 wq ou ((wlv locks L A p i).take M) ∧ (∀ g, ou.ownBlock = some g → w3.heap.size ≤ g) ∧ Below w3.heap.size w3 wq) (fun _ iv _ => L.length - (intOf iv).toNat)
     case atStart => exact ⟨0, Nat.zero_le _, rfl, HO.out.1, HO.out.2.1, HO.out.2.2⟩
     case round =>
      clear HO
      obtain ⟨i, hiL, rfl, hO, hob, hbq⟩ := hrel
      obtain ⟨qa, qc, rfl, _, _⟩ := hO.form
      have hzq := hbq.size
      have hend := wlv_end (locks := locks) (L := L) (A := A) (p := p) (i := i) (M := M)
      have hle : ((wlv locks L A p i).take M).length ≤ M := by rw [List.length_take]; omega
      obtain ⟨O, hOe⟩ : ∃ O, (wlv locks L A p i).take M = O := ⟨_, rfl⟩
      rw [hOe] at hO hob hend hle ⊢
      by_cases hgo : i < L.length ∧ O.length < M
      ·obtain ⟨hi, hOM⟩ := hgo
       have hid : decide ((i : Int) < (L.length : Int)) = true := decide_eq_true (by omega)
       have hod : decide ((O.length : Int) < (M : Int)) = true := decide_eq_true (by omega)
       have hin : ¬ L.length ≤ i := by omega
       have hb1q := H4.out.2.2.2.1.trans (hbq.mono (by have := H4.out.2.2.2.1.size; omega))
       have hxq : ∀ o, wr.cell? ⟨W.heap.size, o, none⟩ = (#[.int .i64 m.c, .int .i64 m.d, .int .i64 m.s, .int .i64 m.e, .int .i64 m.l, .slice (some ⟨b0, off0, none⟩) t.length c] : Array Value)[o]? := fun o => by rw [(bcell hb1q).1 _ _ hz01, H4.out.2.2.2.2]
       obtain ⟨b1, off1, a1, c1, rfl, _, hc1, hr1⟩ := (HF3.out.below hbq).cell hi
       have hlt1 := lt_of_cell hc1
       have hVq := (hV1.below hb1q).any
       have hCq := (hC1.below hb1q).any
       have hkn := Hp.out.2.2.2.2.2.1 i hi
       have hdr : Below wr.heap.size wr wr.drew := (Below.refl _ _).drew
       have hsn := take_snoc (P := wlv locks L A p i) (x := getl L i) (M := M) (by rw [hOe]; exact hOM)
       have hhit := wlv_hit (locks := locks) (A := A) (p := p) hi
       have hmiss := wlv_miss (locks := locks) (A := A) (p := p) hi
       rw [hOe] at hsn
       obtain ⟨K, hK⟩ : ∃ K, getl L i = K := ⟨_, rfl⟩
       rw [hK] at hc1 hr1 hkn hsn hhit hmiss
       have HQ := Lib.hid (And.intro hO (And.intro hob (And.intro hbq (And.intro hr1 (And.intro hc1 (And.intro hb1q (And.intro hVq (And.intro hCq (And.intro hkn (And.intro hK hOe)))))))))); clear hO hob hbq hr1 hb1q hVq hCq hkn hK hend
       obtain ⟨q, hq⟩ : ∃ q, decide (ndoors locks K = p) = q := ⟨_, rfl⟩
       have hqd : decide ((ndoors locks K : Int) = (p : Int)) = q := by rw [← hq]; exact decide_eq_decide.2 (by omega)
       have hqb : (((ndoors locks K : Nat) : Int) == (p : Int)) = q := by rw [← hqd]; simp [Bool.beq_eq_decide_eq]
       have hstep : (wlv locks L A p (i + 1)).take M = if q = true then O ++ [K] else O := by
        rw [← hq]
        by_cases he : ndoors locks K = p
        ·rw [hhit he, hsn]; simp [he]
        ·rw [hmiss he, hOe]; simp [he]
       have Hst := Lib.hid hstep; clear hstep hsn hhit hmiss hOe hq hqd
       cases q
       ·go_wp2_with fail
        go_region_law? (go_simp; go_at_call 55; refine (Hp.out.2.2.2.2.1 _ K _ Hp.out.2.1 Hp.out.2.2.1 HQ.out.2.2.2.2.2.2.2.2.1 (HQ.out.2.2.2.2.2.2.1.below hdr) (HQ.out.2.2.2.2.2.2.2.1.below hdr) ((HQ.out.2.2.2.1.any).below hdr)).mono ?_; rintro e' wz ⟨vq, rfl, hFq, hbq⟩; obtain ⟨aq, cq, rfl, hqm⟩ := hFq.v1.form; rw [show (doorsOf locks K).length = ndoors locks K from rfl]; have hb0q : Below wr.heap.size wr wz := hdr.trans (hbq.mono (Nat.le_refl _)); (try dsimp only))
        all_goals go_wp2_with fail
        all_goals go_roundw
        all_goals first
         | (simp [intOf]; omega)
         | exact ⟨i + 1, by omega, by go_num, by rw [Hst.out, if_neg (by decide)]; exact HQ.out.1.below hb0q, HQ.out.2.1, HQ.out.2.2.1.trans (hb0q.mono hzq)⟩
       ·have hone := HQ.out.1
        go_wp2_with fail
        go_region_law? (go_simp; go_at_call 55; refine (Hp.out.2.2.2.2.1 _ K _ Hp.out.2.1 Hp.out.2.2.1 HQ.out.2.2.2.2.2.2.2.2.1 (HQ.out.2.2.2.2.2.2.1.below hdr) (HQ.out.2.2.2.2.2.2.2.1.below hdr) ((HQ.out.2.2.2.1.any).below hdr)).mono ?_; rintro e' wz ⟨vq, rfl, hFq, hbq⟩; obtain ⟨aq, cq, rfl, hqm⟩ := hFq.v1.form; rw [show (doorsOf locks K).length = ndoors locks K from rfl]; have hb0q : Below wr.heap.size wr wz := hdr.trans (hbq.mono (Nat.le_refl _)); have hc1z := cell_keep hc1 (hb0q.block _ hlt1); obtain ⟨vs, hown, hrv⟩ := hone.below hb0q; have hzz := hb0q.size; have Hrv := Lib.hid (And.intro hrv hb0q); clear hrv hb0q hone hc1 hbq hFq; (try dsimp only))
        all_goals go_wp2_with (at_builtin; refine wp_app1 _ rfl _ _ 24 rfl 0 44 (.slice none 0 0) 24 Tryz.underlying24 inf_ints rfl _ _ _ rfl hown (.slice a1 K.length c1) _ rfl rfl (by omega) (by omega) (by omega) ?_; intro v1 w1 hown1 hgrow1 hblk1 hB1)
        all_goals go_roundw
        all_goals first
         | (simp [intOf]; omega)
         | exact ⟨i + 1, by omega, by go_num, by rw [Hst.out, if_pos trivial]; exact OV.push2 hown Hrv.out.1 ((HQ.out.2.2.2.1.below Hrv.out.2).mono (fun b hb _ => ⟨Nat.zero_le _, fun e => by have h1 := HQ.out.2.1 b e; have hb : b < w3.heap.size := hb; omega⟩) (fun _ _ _ => rfl)) hown1 hgrow1 hblk1, fun g hg => by rcases hblk1 with e | ⟨g', e, hge⟩; (· exact HQ.out.2.1 g (e.symm.trans hg)); (· rw [hg] at e; cases e; omega), (HQ.out.2.2.1.trans (Hrv.out.2.mono hzq)).grown hgrow1 (by omega) (fun g hg => HQ.out.2.1 g hg)⟩
      ·have hOe2 := (hend hgo).symm
       have HE := Lib.hid (And.intro hO (And.intro hob (And.intro hbq hOe2))); clear hO hob hbq hOe2 hend hOe
       by_cases hi : i < L.length
       ·have hid : decide ((i : Int) < (L.length : Int)) = true := decide_eq_true (by omega)
        have hod : decide ((O.length : Int) < (M : Int)) = false := decide_eq_false (by omega)
        go_wp2_with fail
        go_roundw
        case rel => exact ⟨p - 1, by omega, by first | go_num | (congr 1; omega), by rw [HA.out.1, HE.out.2.2.2]; exact HE.out.1, HE.out.2.1, HE.out.2.2.1⟩
        case measure => simp [intOf]; omega
       ·have hid : decide ((i : Int) < (L.length : Int)) = false := decide_eq_false (by omega)
        go_wp2_with fail
        go_roundw
        case rel => exact ⟨p - 1, by omega, by first | go_num | (congr 1; omega), by rw [HA.out.1, HE.out.2.2.2]; exact HE.out.1, HE.out.2.1, HE.out.2.2.1⟩
        case measure => simp [intOf]; omega
    ·obtain rfl : p = 0 := by omega
     rw [Nat.sub_zero] at hO
     have HE := Lib.hid (And.intro hO hbr); clear hO hbr hob
     go_wp2_with fail
     go_ret2
     exact ⟨_, rfl, HE.out.1.v2.old, hB01.trans ((H4.out.2.2.2.1.trans (HE.out.2.mono H4.out.2.2.2.1.size)).mono (by omega))⟩
 ·have hfin : wghAns m t cuts most = ([], designC m t cuts) := by unfold wghAns; rw [if_pos hp]
  have e1 : (designC m t cuts != 0) = true := by simp [hp]
  have e0 : (designC m t cuts == 0) = false := by simp [hp]
  rw [hfin]
  have Hp := Lib.hid (And.intro hp hfin); clear hp hfin
  generalize designC m t cuts = pc at *
  go_enter Tryz.func9, Tryz.ntmps9
  go_wp2_with fail
  rw [← hW1]
  refine hcode.mono ?_
  rintro e' w2 ⟨rfl, hb2⟩
  have hx2 : ∀ o, w2.cell? ⟨W.heap.size, o, none⟩ = (#[.int .i64 m.c, .int .i64 m.d, .int .i64 m.s, .int .i64 m.e, .int .i64 m.l, .slice a t.length c] : Array Value)[o]? := fun o => by rw [(bcell hb2).1 _ _ hz01, hc01]
  have hz2 : W.heap.size < w2.heap.size := by have := hb2.size; omega
  clear hh01
  clear hx2 hc01
  go_wp2_with fail
  go_ret2
  exact ⟨_, rfl, (F2.nil0 (B := 0)).v2.old, hB01.trans (hb2.mono (by omega))⟩
end Go.Proofs.YtmjplkbmhdkggaaGreat
