/- Steps read out of a text: the reference's answer. No conditions. -/
import Derived.Shelf.LaysM
import Derived.Shelf.Strconv.Itoa4
import Derived.Shelf.Strconv.ParseIntPublic10
import Derived.Shelf.Strconv.ErrVarParseInt
import Derived.Shelf.Strings.Split
import Derived.Test.YtbekpololmahoaaGreatDoorProg
import Derived.Lib.AppendIntMem
import Derived.Lib.AtoiErrMem
import Derived.Lib.ParseIntBTie
import Derived.Test.YtbekpololmahoaaGreatDoorMDmg
import Derived.Test.YtbekpololmahoaaGreatDoorMCount
namespace Go.Proofs.YtbekpololmahoaaGreatDoor
open Go.RowKit
set_option linter.unusedVariables false
set_option linter.unusedSimpArgs false
theorem bs_toList (l : List UInt8) : (bs l).toList = l := by rw [Lib.toList_data, bs_data]
def flS (l : List (Int × Int)) : List Value := l.flatMap fun x => [.int .i64 x.1, .int .i64 x.2]
theorem flS_snoc (l : List (Int × Int)) (x : Int × Int) : flS (l ++ [x]) = flS l ++ [.int .i64 x.1, .int .i64 x.2] := by simp [flS]
theorem flS_get {l : List (Int × Int)} : ∀ {k : Nat}, k < l.length → (flS l)[k * 2]? = some (.int .i64 (gets l k).1) ∧ (flS l)[k * 2 + 1]? = some (.int .i64 (gets l k).2) := by
 induction l with
 | nil => intro k h; simp at h
 | cons x l ih =>
   intro k h
   cases k with
   | zero => exact ⟨rfl, rfl⟩
   | succ k =>
     have h1 := ih (k := k) (by simpa using h)
     have e : flS (x :: l) = .int .i64 x.1 :: .int .i64 x.2 :: flS l := rfl
     rw [e, show (k + 1) * 2 = k * 2 + 1 + 1 from by omega]
     exact h1
theorem own2_FS {w : World} {B : Nat} {v : Value} {l : List (Int × Int)} (h : w.ownsRow B 48 2 v l.length (flS l)) : FS B w v l := by
 rcases h.2 with ⟨rfl, h0⟩ | ⟨g, cap, cur, rfl, h1, h2, h3, h4, h5, h6⟩
 ·have : l = [] := List.length_eq_zero_iff.1 h0
  subst this; exact FS.nil
 ·refine ⟨g, ⟨_, _, rfl, h3, h4, fun _ => ⟨0, cur, _, rfl, h2, fun k hk => ?_⟩⟩, fun _ => h1⟩
  have h7 := flS_get hk
  rw [← h6, List.getElem?_take, List.getElem?_take, if_pos (by omega), if_pos (by omega), Array.getElem?_toList, Array.getElem?_toList] at h7
  rw [Nat.zero_add]; exact h7
theorem own2_FSn {w : World} {B n : Nat} {v : Value} {l : List (Int × Int)} (h : w.ownsRow B 48 2 v n (flS l)) (hn : l.length = n) : FS B w v l := by subst hn; exact own2_FS h
theorem own2_form {w : World} {B z : Nat} {e : TypeId} {v : Value} {n : Nat} {xs : List Value} (h : w.ownsRow B e z v n xs) : ∃ a c, v = .slice a n c ∧ n ≤ c ∧ c ≤ maxLen := by
 rcases h.2 with ⟨rfl, h0⟩ | ⟨g, cap, cur, rfl, h1, h2, h3, h4, _⟩
 ·subst h0; exact ⟨_, _, rfl, Nat.le_refl _, Nat.zero_le _⟩
 ·exact ⟨_, _, rfl, h3, h4⟩
theorem own2_keep {w w' : World} {B z : Nat} {e : TypeId} {v : Value} {n : Nat} {xs : List Value} (h : w.ownsRow B e z v n xs) (hb : Below w.heap.size w w') : w'.ownsRow B e z v n xs := by
 refine ⟨h.1, ?_⟩
 rcases h.2 with h0 | ⟨g, cap, cur, rfl, h1, h2, h3⟩
 ·exact .inl h0
 ·exact .inr ⟨g, cap, cur, rfl, h1, by rw [hb.block _ (lt_of_heap h2)]; exact h2, h3⟩
theorem SW.cell {w : World} {a : Option Addr} {n c k : Nat} {ws : List (List UInt8)} (h : SW w (.slice a n c) ws) (hk : k < ws.length) : ∃ g off, a = some ⟨g, off, none⟩ ∧ n = ws.length ∧ w.cell? ⟨g, off + k, none⟩ = some (.string (bs (getw ws k))) := by
 obtain ⟨a', c', e, h⟩ := h
 cases e
 obtain ⟨g, off, h1, h2⟩ := h k hk
 exact ⟨g, off, h1, rfl, h2⟩
theorem SW.form {w : World} {v : Value} {ws : List (List UInt8)} (h : SW w v ws) : ∃ a c, v = .slice a ws.length c := by
 obtain ⟨a, c, rfl, _⟩ := h; exact ⟨a, c, rfl⟩
theorem split_len (c : UInt8) : ∀ l, (splitL c l).length ≤ l.length + 1
 | [] => by simp [splitL]
 | x :: r => by
   have ih := split_len c r
   rw [splitL_cons]
   split
   ·simp; omega
   ·split
    ·simp
    ·rename_i h
     rw [h] at ih
     simp at ih ⊢; omega
theorem split_word (c : UInt8) : ∀ l k, (getw (splitL c l) k).length ≤ l.length
 | [], k => by cases k <;> simp [splitL, getw]
 | x :: r, k => by
   have ih := split_word c r
   rw [splitL_cons]
   split
   ·cases k with
    | zero => simp [getw]
    | succ k => have := ih k; show (getw (splitL c r) k).length ≤ _; simp; omega
   ·split
    ·cases k <;> simp [getw]
    ·rename_i w ws h
     rw [h] at ih
     cases k with
     | zero => have := ih 0; show (x :: w).length ≤ _; simp; exact this
     | succ k => have := ih (k + 1); show (getw ws k).length ≤ _; simp; exact Nat.le_succ_of_le this
set_option maxRecDepth 100000 in
set_option maxHeartbeats 8000000 in
theorem ParseStepsR_any (t : List UInt8) (W : World) (hl : t.length ≤ 1048576) :
  Calls Tryz.prog 10 #[.string (bs t)] W fun e' w' => ∃ v', e' = .returned (.tuple #[v', .int .i64 (psAns t).2]) ∧ FS W.heap.size w' v' (psAns t).1 ∧ Below W.heap.size W w' := by
 by_cases ht : t = []
 ·subst ht
  have hans : psAns [] = ([], 0) := rfl
  have H := Lib.hid hans; clear hans
  have he : bs [] = (ByteArray.mk #[]) := rfl
  rw [he]
  clear he
  go_enter Tryz.func10, Tryz.ntmps10
  go_wp2_with fail
  go_ret2
  exact ⟨_, by rw [H.out]; rfl, by rw [H.out]; exact own2_FS (own_lit0 W W.heap.size 48 2 (Nat.le_refl _)), (Below.refl _ _).alloc (Nat.le_refl _) _⟩
 ·have hne : (bs t).toList.isEmpty = false := by
   rw [bs_toList]
   cases t with
   | nil => exact absurd rfl ht
   | cons x r => rfl
  obtain ⟨ws, hws⟩ : ∃ ws, splitL 32 t = ws := ⟨_, rfl⟩
  have hsp : ∀ W : World, Calls Tryz.prog 31 #[.string (bs t), .int .u8 32] W fun e' w' => ∃ v', e' = .returned v' ∧ SW w' v' (splitL 32 t) ∧ Below W.heap.size W w' := fun W => l01Split_any t 32 W hl
  have hwl := split_len 32 t
  have hww := split_word 32 t
  simp only [hws] at hsp
  rw [hws] at hwl hww
  have HW := Lib.hid (And.intro hws (And.intro hsp hww)); clear hws hsp hww
  go_enter Tryz.func10, Tryz.ntmps10
  go_wp2_with fail
  refine (HW.out.2.1 _).mono ?_
  rintro e' w2 ⟨wv, rfl, hwv, hb2⟩
  obtain ⟨wa, wc, rfl⟩ := hwv.form
  have hown0 := own_lit0 w2 w2.heap.size 48 2 (Nat.le_refl _)
  have hbl : Below w2.heap.size w2 (w2.alloc (.cells #[] 48)) := (Below.refl _ _).alloc (Nat.le_refl _) _
  have H0 := Lib.hid (And.intro hown0 (And.intro hbl (And.intro hwv hb2))); clear hown0 hbl hb2 hwv
  have hz2 := H0.out.2.2.2.size
  go_wp2_with fail
  go_loopw [5, 6] (fun ou i wr => ∃ k : Nat, k ≤ ws.length ∧ i = .int .i64 k ∧ okTo pstR ws k = true ∧ wr.ownsRow w2.heap.size 48 2 ou k (flS (outTo pstR ws k)) ∧ Below w2.heap.size w2 wr) (fun _ i _ => ws.length - (intOf i).toNat)
  case atStart => exact ⟨0, Nat.zero_le _, rfl, rfl, H0.out.1, H0.out.2.1⟩
  case round =>
   obtain ⟨k, hk, rfl, hok, hown, hB⟩ := hrel
   have hzW := hB.size
   obtain ⟨oa, oc, rfl, _, _⟩ := own2_form hown
   obtain ⟨wo, rfl⟩ : ∃ q, q = wr := ⟨_, rfl⟩
   have hwv := H0.out.2.2.1.below hB
   by_cases hkk : k < ws.length
   ·obtain ⟨g, off, rfl, _, hcw⟩ := hwv.cell hkk
    have hkn : ¬ ws.length ≤ k := by omega
    have hkd : decide (k < ws.length) = true := decide_eq_true hkk
    obtain ⟨w, hw⟩ : ∃ w, getw ws k = w := ⟨_, rfl⟩
    have hoks : okTo pstR ws (k + 1) = (pstR w).1 := by rw [← hw]; unfold okTo; rw [hok]; rfl
    have houts : outTo pstR ws (k + 1) = outTo pstR ws k ++ [(pstR w).2] := by rw [← hw]; rfl
    have hlw : w.length ≤ 1048576 := by rw [← hw]; have := HW.out.2.2 k; omega
    rw [hw] at hcw
    have HS := Lib.hid (And.intro hoks (And.intro houts (And.intro hown hB))); clear hoks houts hw hown hwv hB hok
    by_cases hplus : w = [43]
    ·have hpl : ((bs w).toList == [43]) = true := by rw [bs_toList, hplus]; rfl
     have hst : pstR w = (true, (-1, 0)) := by unfold pstR; rw [if_pos hplus]
     have Hst := Lib.hid hst; clear hst
     have hown5 := HS.out.2.2.1
     have hB5 := HS.out.2.2.2
     clear hplus
     have hz5 := hB5.size
     have hzA : (wo.alloc (.cells #[.int .i64 (-1), .int .i64 (0)] 48)).heap.size = wo.heap.size + 1 := by simp
     go_wp2_with (at_builtin; refine wp_app rfl _ _ 24 rfl w2.heap.size 48 (.agg #[.int .i64 0, .int .i64 0]) 2 16 Tryz.underlying24 inf_step rfl (by omega) _ _ _ rfl (hown5.alloc _) ⟨_, 0, none⟩ 1 1 [.int .i64 (-1), .int .i64 (0)] rfl rfl (World.news_of_block (heap_alloc_new _ _)) (by simp [Value.oneCell']) (by unfold maxLen; omega) (by omega) (by omega) ?_; intro v8 w8 hown8 hgrow8 hblk8; refine Hid.out ?_)
     refine Lib.hid ?_
     have hB8 : Below w2.heap.size w2 w8 := (hB5.alloc hz5 _).grown hgrow8 (by omega) (fun g hg => (hown5.lt g hg).1)
     have HB := Lib.hid (And.intro hown8 hB8); clear hown8 hgrow8 hblk8 hB8 hown5 hB5 hzA
     obtain ⟨na, nc, rfl, _, _⟩ := own2_form HB.out.1
     go_wp2_with fail
     go_roundw
     case rel => exact ⟨k + 1, by omega, by go_num, by rw [HS.out.1, Hst.out], by rw [HS.out.2.1, flS_snoc, Hst.out]; exact HB.out.1, HB.out.2⟩
     case measure => simp [intOf]; omega
    ·have hpl : ((bs w).toList == [43]) = false := by rw [bs_toList]; simp [hplus]
     have hspw : ∀ W : World, Calls Tryz.prog 31 #[.string (bs w), .int .u8 47] W fun e' w' => ∃ v', e' = .returned v' ∧ SW w' v' (splitL 47 w) ∧ Below W.heap.size W w' := fun W => l01Split_any w 47 W hlw
     have hpw := split_word 47 w
     obtain ⟨ps, hps⟩ : ∃ ps, splitL 47 w = ps := ⟨_, rfl⟩
     simp only [hps] at hspw
     rw [hps] at hpw
     have hunf : pstR w = pairR ps := by rw [pstR_pair hplus, hps]
     have HP := Lib.hid (And.intro hspw (And.intro hpw hunf)); clear hspw hpw hunf hps hplus
     by_cases h2 : ps.length = 2
     ·obtain ⟨p0, p1, rfl⟩ := two_of h2
      have hl0 : p0.length ≤ 1048576 := by have := HP.out.2.1 0; have : p0.length ≤ w.length := this; omega
      have hl1 : p1.length ≤ 1048576 := by have := HP.out.2.1 1; have : p1.length ≤ w.length := this; omega
      obtain ⟨r0, hr0⟩ : ∃ r, valR p0 = r := ⟨_, rfl⟩
      obtain ⟨r1, hr1⟩ : ∃ r, valR p1 = r := ⟨_, rfl⟩
      have hC0 := fun w : World => l01Value_any p0 w hl0
      have hC1 := fun w : World => l01Value_any p1 w hl1
      simp only [hr0] at hC0
      simp only [hr1] at hC1
      have hst : pstR w = (r0.1 && r1.1, (r0.2, r1.2)) := by rw [HP.out.2.2, ← hr0, ← hr1]; rfl
      have Hst := Lib.hid (And.intro hst (And.intro hC0 hC1)); clear hst hC0 hC1 hr0 hr1 hl0 hl1
      go_wp2_with fail
      refine (HP.out.1 _).mono ?_
      rintro e' w3 ⟨pv, rfl, hpv, hb3⟩
      obtain ⟨pa, pc, rfl⟩ := hpv.form
      obtain ⟨pg, po, rfl, _, hc0⟩ := hpv.cell (k := 0) (by simp)
      obtain ⟨pg', po', e, _, hc1⟩ := hpv.cell (k := 1) (by simp)
      cases e
      have hc0 : w3.cell? ⟨pg, po, none⟩ = some (.string (bs p0)) := hc0
      have hc1 : w3.cell? ⟨pg, po + 1, none⟩ = some (.string (bs p1)) := hc1
      have Hb3 := Lib.hid hb3; clear hb3 hpv hcw
      go_wp2_with fail
      refine (Hst.out.2.1 _).mono ?_
      rintro e' w4 ⟨rfl, hb4⟩
      have hc1' := cell_keep hc1 (hb4.block _ (lt_of_cell hc1))
      have Hb4 := Lib.hid hb4; clear hb4 hc0 hc1
      go_wp2_with fail
      refine (Hst.out.2.2 _).mono ?_
      rintro e' w5 ⟨rfl, hb5⟩
      have hb05 : Below wo.heap.size wo w5 := Hb3.out.trans ((Hb4.out.trans (hb5.mono Hb4.out.size)).mono Hb3.out.size)
      have hown5 := own2_keep HS.out.2.2.1 hb05
      have hB5 : Below w2.heap.size w2 w5 := HS.out.2.2.2.trans (hb05.mono hzW)
      clear hc1' hb5
      cases h0 : r0.1
      ·have hst2 : (pstR w).1 = false := by rw [Hst.out.1, h0]; rfl
       have H0f := Lib.hid (And.intro h0 hst2); clear h0 hst2
       have hbad : psAns t = ([], 6) := by
        unfold psAns
        rw [if_neg ht, HW.out.1]
        rw [if_pos (ok_false (k := k + 1) (by rw [HS.out.1, H0f.out.2]) _ (by omega))]
       have Hbad := Lib.hid hbad; clear hbad
       go_wp2_with fail
       go_ret2
       exact ⟨_, by rw [Hbad.out]; rfl, by rw [Hbad.out]; exact FS.nil, H0.out.2.2.2.trans (hB5.mono hz2)⟩
      ·cases h1 : r1.1
       ·have hst2 : (pstR w).1 = false := by rw [Hst.out.1, h0, h1]; rfl
        have H0f := Lib.hid (And.intro h0 (And.intro h1 hst2)); clear h0 h1 hst2
        have hbad : psAns t = ([], 6) := by
         unfold psAns
         rw [if_neg ht, HW.out.1]
         rw [if_pos (ok_false (k := k + 1) (by rw [HS.out.1, H0f.out.2.2]) _ (by omega))]
        have Hbad := Lib.hid hbad; clear hbad
        go_wp2_with fail
        go_ret2
        exact ⟨_, by rw [Hbad.out]; rfl, by rw [Hbad.out]; exact FS.nil, H0.out.2.2.2.trans (hB5.mono hz2)⟩
       ·have hst2 : pstR w = (true, (r0.2, r1.2)) := by rw [Hst.out.1, h0, h1]; rfl
        have H0f := Lib.hid (And.intro h0 (And.intro h1 hst2)); clear h0 h1 hst2
        have hz5 := hB5.size
        have hzA : (w5.alloc (.cells #[.int .i64 (r0.2), .int .i64 (r1.2)] 48)).heap.size = w5.heap.size + 1 := by simp
        go_wp2_with (at_builtin; refine wp_app rfl _ _ 24 rfl w2.heap.size 48 (.agg #[.int .i64 0, .int .i64 0]) 2 16 Tryz.underlying24 inf_step rfl (by omega) _ _ _ rfl (hown5.alloc _) ⟨_, 0, none⟩ 1 1 [.int .i64 (r0.2), .int .i64 (r1.2)] rfl rfl (World.news_of_block (heap_alloc_new _ _)) (by simp [Value.oneCell']) (by unfold maxLen; omega) (by omega) (by omega) ?_; intro v8 w8 hown8 hgrow8 hblk8; refine Hid.out ?_)
        refine Lib.hid ?_
        have hB8 : Below w2.heap.size w2 w8 := (hB5.alloc hz5 _).grown hgrow8 (by omega) (fun g hg => (hown5.lt g hg).1)
        have HB := Lib.hid (And.intro hown8 hB8); clear hown8 hgrow8 hblk8 hB8 hown5 hB5 hzA
        obtain ⟨na, nc, rfl, _, _⟩ := own2_form HB.out.1
        go_wp2_with fail
        go_roundw
        case rel => exact ⟨k + 1, by omega, by go_num, by rw [HS.out.1, H0f.out.2.2], by rw [HS.out.2.1, flS_snoc, H0f.out.2.2]; exact HB.out.1, HB.out.2⟩
        case measure => simp [intOf]; omega
     ·have hst : (pstR w).1 = false := by rw [HP.out.2.2]; exact pairR_ne h2
      have Hst := Lib.hid hst; clear hst
      have hbad : psAns t = ([], 6) := by
       unfold psAns
       rw [if_neg ht, HW.out.1]
       rw [if_pos (ok_false (k := k + 1) (by rw [HS.out.1, Hst.out]) _ (by omega))]
      have Hbad := Lib.hid hbad; clear hbad
      have h2d : ((ps.length : Int) != 2) = true := by simp; omega
      have h2e : ¬ ((ps.length : Int) = 2) := by omega
      go_wp2_with fail
      refine (HP.out.1 _).mono ?_
      rintro e' w3 ⟨pv, rfl, hpv, hb3⟩
      obtain ⟨pa, pc, rfl⟩ := hpv.form
      have hB3 : Below w2.heap.size w2 w3 := HS.out.2.2.2.trans (hb3.mono hzW)
      clear hpv hcw
      go_wp2_with fail
      go_ret2
      exact ⟨_, by rw [Hbad.out]; rfl, by rw [Hbad.out]; exact FS.nil, H0.out.2.2.2.trans (hB3.mono hz2)⟩
   ·obtain rfl : k = ws.length := by omega
    have hkd : decide (ws.length < ws.length) = false := decide_eq_false (Nat.lt_irrefl _)
    obtain ⟨ol, hol⟩ : ∃ ol, outTo pstR ws ws.length = ol := ⟨_, rfl⟩
    have hll : ol.length = ws.length := by rw [← hol]; exact out_len _
    rw [hol] at hown
    have hfs := own2_FSn hown hll
    have hcode := l19Code_any _ ol wo (hfs.vs)
    obtain ⟨cd, hcd⟩ : ∃ cd, codeS ol = cd := ⟨_, rfl⟩
    rw [hcd] at hcode
    have HC := Lib.hid (And.intro hfs (And.intro hB (And.intro hcode (And.intro hok (And.intro hol hcd))))); clear hfs hB hcode hok hol hcd hown hwv hll
    by_cases hc0 : cd = 0
    ·have hans : psAns t = (ol, 0) := by
      unfold psAns
      rw [if_neg ht, HW.out.1, if_neg (by rw [HC.out.2.2.2.1]; decide), HC.out.2.2.2.2.1, HC.out.2.2.2.2.2, if_neg (by simp [hc0])]
     have Ha := Lib.hid hans; clear hans
     subst hc0
     go_wp2_with fail
     refine HC.out.2.2.1.mono ?_
     rintro e' w6 ⟨rfl, hb6⟩
     have Hb6 := Lib.hid hb6; clear hb6
     go_wp2_with fail
     go_ret2
     exact ⟨_, by rw [Ha.out]; rfl, by rw [Ha.out]; exact (HC.out.1.below Hb6.out).mono hz2, H0.out.2.2.2.trans ((HC.out.2.1.trans (Hb6.out.mono hzW)).mono hz2)⟩
    ·have hans : psAns t = ([], 6) := by
      unfold psAns
      rw [if_neg ht, HW.out.1, if_neg (by rw [HC.out.2.2.2.1]; decide), HC.out.2.2.2.2.1, HC.out.2.2.2.2.2, if_pos hc0]
     have Ha := Lib.hid hans; clear hans
     have hcdd : (cd != 0) = true := by simp [hc0]
     clear hc0
     go_wp2_with fail
     refine HC.out.2.2.1.mono ?_
     rintro e' w6 ⟨rfl, hb6⟩
     have Hb6 := Lib.hid hb6; clear hb6
     go_wp2_with fail
     go_ret2
     exact ⟨_, by rw [Ha.out]; rfl, by rw [Ha.out]; exact FS.nil, H0.out.2.2.2.trans ((HC.out.2.1.trans (Hb6.out.mono hzW)).mono hz2)⟩
end Go.Proofs.YtbekpololmahoaaGreatDoor
namespace Go.Proofs
open Go.Shelf
def Tryz.laysM173_ren : Go.Shelf.Ren := ⟨fun | 173 => 41 | 246 => 68 | 283 => 95 | 284 => 96 | 285 => 97 | 286 => 98 | 129 => 119 | 317 => 118 | 318 => 120 | 319 => 121 | 320 => 122 | 337 => 139 | 338 => 140 | n => n, fun | 2 => 2 | 3 => 3 | 9 => 9 | 4 => 4 | 171 => 125 | 0 => 0 | 53 => 126 | 37 => 22 | 5 => 5 | 173 => 129 | 212 => 146 | 51 => 147 | 20 => 20 | 213 => 148 | 46 => 150 | 232 => 185 | 233 => 186 | n => n, fun | 17 => 0 | 18 => 6 | 19 => 7 | n => n⟩
theorem Tryz.laysM173 : Go.Proofs.LaysM.n173 Tryz.prog Tryz.laysM173_ren := {
 mixed := by kernel_rfl
 f129 := Tryz.func119.trans (congrArg some (by kernel_rfl))
 f173 := Tryz.func41.trans (congrArg some (by kernel_rfl))
 f246 := Tryz.func68.trans (congrArg some (by kernel_rfl))
 f283 := Tryz.func95.trans (congrArg some (by kernel_rfl))
 f284 := Tryz.func96.trans (congrArg some (by kernel_rfl))
 f285 := Tryz.func97.trans (congrArg some (by kernel_rfl))
 f286 := Tryz.func98.trans (congrArg some (by kernel_rfl))
 f317 := Tryz.func118.trans (congrArg some (by kernel_rfl))
 f318 := Tryz.func120.trans (congrArg some (by kernel_rfl))
 f319 := Tryz.func121.trans (congrArg some (by kernel_rfl))
 f320 := Tryz.func122.trans (congrArg some (by kernel_rfl))
 f337 := Tryz.func139.trans (congrArg some (by kernel_rfl))
 f338 := Tryz.func140.trans (congrArg some (by kernel_rfl))
 t0 := Tryz.underlying0
 a0 := Tryz.isAgg0
 z0 := Tryz.sizeOf0
 v0 := Tryz.zeroValue0
 t2 := Tryz.underlying2
 a2 := Tryz.isAgg2
 z2 := Tryz.sizeOf2
 v2 := Tryz.zeroValue2
 t3 := Tryz.underlying3
 a3 := Tryz.isAgg3
 z3 := Tryz.sizeOf3
 v3 := Tryz.zeroValue3
 t4 := Tryz.underlying4
 a4 := Tryz.isAgg4
 z4 := Tryz.sizeOf4
 v4 := Tryz.zeroValue4
 t5 := Tryz.underlying5
 a5 := Tryz.isAgg5
 z5 := Tryz.sizeOf5
 v5 := Tryz.zeroValue5
 t9 := Tryz.underlying9
 a9 := Tryz.isAgg9
 z9 := Tryz.sizeOf9
 v9 := Tryz.zeroValue9
 t20 := Tryz.underlying20
 a20 := Tryz.isAgg20
 z20 := Tryz.sizeOf20
 v20 := Tryz.zeroValue20
 t37 := Tryz.underlying22
 a37 := Tryz.isAgg22
 z37 := Tryz.sizeOf22
 v37 := Tryz.zeroValue22
 t46 := Tryz.underlying150
 a46 := Tryz.isAgg150
 z46 := Tryz.sizeOf150
 v46 := Tryz.zeroValue150
 t51 := Tryz.underlying147
 a51 := Tryz.isAgg147
 z51 := Tryz.sizeOf147
 v51 := Tryz.zeroValue147
 t53 := Tryz.underlying126
 a53 := Tryz.isAgg126
 z53 := Tryz.sizeOf126
 v53 := Tryz.zeroValue126
 t171 := Tryz.underlying125
 a171 := Tryz.isAgg125
 z171 := Tryz.sizeOf125
 v171 := Tryz.zeroValue125
 t173 := Tryz.underlying129
 a173 := Tryz.isAgg129
 z173 := Tryz.sizeOf129
 v173 := Tryz.zeroValue129
 t212 := Tryz.underlying146
 a212 := Tryz.isAgg146
 z212 := Tryz.sizeOf146
 v212 := Tryz.zeroValue146
 t213 := Tryz.underlying148
 a213 := Tryz.isAgg148
 z213 := Tryz.sizeOf148
 t232 := Tryz.underlying185
 a232 := Tryz.isAgg185
 z232 := Tryz.sizeOf185
 v232 := Tryz.zeroValue185
 t233 := Tryz.underlying186
 a233 := Tryz.isAgg186
 z233 := Tryz.sizeOf186
 v233 := Tryz.zeroValue186
 g17 := by kernel_rfl
 g18 := by kernel_rfl
 g19 := by kernel_rfl
 i0 := by kernel_rfl
 i2 := by kernel_rfl
 i3 := by kernel_rfl
 i4 := by kernel_rfl
 i5 := by kernel_rfl
 i9 := by kernel_rfl
 i20 := by kernel_rfl
 i37 := by kernel_rfl
 i46 := by kernel_rfl
 i51 := by kernel_rfl
 i53 := by kernel_rfl
 i171 := by kernel_rfl
 i173 := by kernel_rfl
 i212 := by kernel_rfl
 i232 := by kernel_rfl
 i233 := by kernel_rfl
 m17 := by kernel_rfl
 m18 := by kernel_rfl
 m19 := by kernel_rfl }
open Go.RowKit Go.Sort Go.Lib in
/-- strconv.FormatInt: "FormatInt returns the string representation of i in the given base": AT BASE 10: i's decimal numeral, for every int64. (LAID: no walk: one application.) -/
theorem Tryz.strconv_FormatInt_10 (n : Int) (h0 : -9223372036854775808 ≤ n) (h1 : n ≤ 9223372036854775807) (w : World) (htab : Lib.TabIs Tryz.prog w "internal/strconv.uint64pow10" .u64 Lib.pow10Tab) :
  Calls Tryz.prog 41 #[.int .i64 n, .int .i64 10] w fun e w' => e = .returned (.string ⟨(Lib.itoa n).toArray⟩) ∧ ∃ k os, w' = grow (w.drewN k) os := Any.strconv_FormatInt_10 Tryz.laysM173 n h0 h1 w htab
def Tryz.laysC174_ren : Go.Shelf.Ren := ⟨fun | 174 => 74 | 247 => 105 | 245 => 106 | 287 => 128 | 279 => 129 | 280 => 130 | 281 => 131 | 282 => 132 | 321 => 143 | 322 => 144 | 316 => 145 | 171 => 147 | 205 => 146 | 243 => 154 | 246 => 68 | 283 => 95 | 284 => 96 | 285 => 97 | 286 => 98 | 129 => 119 | 317 => 118 | 318 => 120 | 319 => 121 | 320 => 122 | 337 => 139 | 338 => 140 | n => n, fun | 9 => 9 | 3 => 3 | 2 => 2 | 75 => 81 | 85 => 106 | 4 => 4 | 167 => 152 | 5 => 5 | 53 => 126 | 175 => 153 | 46 => 150 | 168 => 155 | 37 => 22 | 0 => 0 | 210 => 178 | 21 => 21 | 127 => 103 | 145 => 189 | 143 => 187 | 171 => 125 | 173 => 129 | 212 => 146 | 51 => 147 | 20 => 20 | 213 => 148 | 232 => 185 | 233 => 186 | 80 => 84 | n => n, fun | 15 => 4 | 16 => 5 | 17 => 0 | 18 => 6 | 19 => 7 | n => n⟩
theorem Tryz.laysC174 : Go.Proofs.LaysC.n174 Tryz.prog Tryz.laysC174_ren := {
 mixed := by kernel_rfl
 f129 := Tryz.func119.trans (congrArg some (by kernel_rfl))
 f171 := Tryz.func147.trans (congrArg some (by kernel_rfl))
 f174 := Tryz.func74.trans (congrArg some (by kernel_rfl))
 f205 := Tryz.func146.trans (congrArg some (by kernel_rfl))
 f243 := Tryz.func154.trans (congrArg some (by kernel_rfl))
 f245 := Tryz.func106.trans (congrArg some (by kernel_rfl))
 f246 := Tryz.func68.trans (congrArg some (by kernel_rfl))
 f247 := Tryz.func105.trans (congrArg some (by kernel_rfl))
 f279 := Tryz.func129.trans (congrArg some (by kernel_rfl))
 f280 := Tryz.func130.trans (congrArg some (by kernel_rfl))
 f281 := Tryz.func131.trans (congrArg some (by kernel_rfl))
 f282 := Tryz.func132.trans (congrArg some (by kernel_rfl))
 f283 := Tryz.func95.trans (congrArg some (by kernel_rfl))
 f284 := Tryz.func96.trans (congrArg some (by kernel_rfl))
 f285 := Tryz.func97.trans (congrArg some (by kernel_rfl))
 f286 := Tryz.func98.trans (congrArg some (by kernel_rfl))
 f287 := Tryz.func128.trans (congrArg some (by kernel_rfl))
 f316 := Tryz.func145.trans (congrArg some (by kernel_rfl))
 f317 := Tryz.func118.trans (congrArg some (by kernel_rfl))
 f318 := Tryz.func120.trans (congrArg some (by kernel_rfl))
 f319 := Tryz.func121.trans (congrArg some (by kernel_rfl))
 f320 := Tryz.func122.trans (congrArg some (by kernel_rfl))
 f321 := Tryz.func143.trans (congrArg some (by kernel_rfl))
 f322 := Tryz.func144.trans (congrArg some (by kernel_rfl))
 f337 := Tryz.func139.trans (congrArg some (by kernel_rfl))
 f338 := Tryz.func140.trans (congrArg some (by kernel_rfl))
 t0 := Tryz.underlying0
 a0 := Tryz.isAgg0
 z0 := Tryz.sizeOf0
 v0 := Tryz.zeroValue0
 t2 := Tryz.underlying2
 a2 := Tryz.isAgg2
 z2 := Tryz.sizeOf2
 v2 := Tryz.zeroValue2
 t3 := Tryz.underlying3
 a3 := Tryz.isAgg3
 z3 := Tryz.sizeOf3
 v3 := Tryz.zeroValue3
 t4 := Tryz.underlying4
 a4 := Tryz.isAgg4
 z4 := Tryz.sizeOf4
 v4 := Tryz.zeroValue4
 t5 := Tryz.underlying5
 a5 := Tryz.isAgg5
 z5 := Tryz.sizeOf5
 v5 := Tryz.zeroValue5
 t9 := Tryz.underlying9
 a9 := Tryz.isAgg9
 z9 := Tryz.sizeOf9
 v9 := Tryz.zeroValue9
 t20 := Tryz.underlying20
 a20 := Tryz.isAgg20
 z20 := Tryz.sizeOf20
 v20 := Tryz.zeroValue20
 t21 := Tryz.underlying21
 a21 := Tryz.isAgg21
 z21 := Tryz.sizeOf21
 v21 := Tryz.zeroValue21
 t37 := Tryz.underlying22
 a37 := Tryz.isAgg22
 z37 := Tryz.sizeOf22
 v37 := Tryz.zeroValue22
 t46 := Tryz.underlying150
 a46 := Tryz.isAgg150
 z46 := Tryz.sizeOf150
 v46 := Tryz.zeroValue150
 t51 := Tryz.underlying147
 a51 := Tryz.isAgg147
 z51 := Tryz.sizeOf147
 v51 := Tryz.zeroValue147
 t53 := Tryz.underlying126
 a53 := Tryz.isAgg126
 z53 := Tryz.sizeOf126
 v53 := Tryz.zeroValue126
 t75 := Tryz.underlying81
 a75 := Tryz.isAgg81
 z75 := Tryz.sizeOf81
 v75 := Tryz.zeroValue81
 t85 := Tryz.underlying106
 a85 := Tryz.isAgg106
 z85 := Tryz.sizeOf106
 v85 := Tryz.zeroValue106
 t127 := Tryz.underlying103
 a127 := Tryz.isAgg103
 z127 := Tryz.sizeOf103
 v127 := Tryz.zeroValue103
 t143 := Tryz.underlying187
 a143 := Tryz.isAgg187
 z143 := Tryz.sizeOf187
 v143 := Tryz.zeroValue187
 t145 := Tryz.underlying189
 a145 := Tryz.isAgg189
 z145 := Tryz.sizeOf189
 v145 := Tryz.zeroValue189
 t167 := Tryz.underlying152
 a167 := Tryz.isAgg152
 z167 := Tryz.sizeOf152
 v167 := Tryz.zeroValue152
 t168 := Tryz.underlying155
 a168 := Tryz.isAgg155
 z168 := Tryz.sizeOf155
 v168 := Tryz.zeroValue155
 t171 := Tryz.underlying125
 a171 := Tryz.isAgg125
 z171 := Tryz.sizeOf125
 v171 := Tryz.zeroValue125
 t173 := Tryz.underlying129
 a173 := Tryz.isAgg129
 z173 := Tryz.sizeOf129
 v173 := Tryz.zeroValue129
 t175 := Tryz.underlying153
 a175 := Tryz.isAgg153
 z175 := Tryz.sizeOf153
 v175 := Tryz.zeroValue153
 t210 := Tryz.underlying178
 a210 := Tryz.isAgg178
 z210 := Tryz.sizeOf178
 v210 := Tryz.zeroValue178
 t212 := Tryz.underlying146
 a212 := Tryz.isAgg146
 z212 := Tryz.sizeOf146
 v212 := Tryz.zeroValue146
 t213 := Tryz.underlying148
 a213 := Tryz.isAgg148
 z213 := Tryz.sizeOf148
 t232 := Tryz.underlying185
 a232 := Tryz.isAgg185
 z232 := Tryz.sizeOf185
 v232 := Tryz.zeroValue185
 t233 := Tryz.underlying186
 a233 := Tryz.isAgg186
 z233 := Tryz.sizeOf186
 v233 := Tryz.zeroValue186
 g15 := by kernel_rfl
 g16 := by kernel_rfl
 g17 := by kernel_rfl
 g18 := by kernel_rfl
 g19 := by kernel_rfl
 t80 := Tryz.underlying84
 a80 := Tryz.isAgg84
 z80 := Tryz.sizeOf84
 v80 := Tryz.zeroValue84
 i0 := by kernel_rfl
 i2 := by kernel_rfl
 i3 := by kernel_rfl
 i4 := by kernel_rfl
 i5 := by kernel_rfl
 i9 := by kernel_rfl
 i20 := by kernel_rfl
 i21 := by kernel_rfl
 i37 := by kernel_rfl
 i46 := by kernel_rfl
 i51 := by kernel_rfl
 i53 := by kernel_rfl
 i75 := by kernel_rfl
 i80 := by kernel_rfl
 i85 := by kernel_rfl
 i127 := by kernel_rfl
 i143 := by kernel_rfl
 i145 := by kernel_rfl
 i167 := by kernel_rfl
 i168 := by kernel_rfl
 i171 := by kernel_rfl
 i173 := by kernel_rfl
 i175 := by kernel_rfl
 i210 := by kernel_rfl
 i212 := by kernel_rfl
 i232 := by kernel_rfl
 i233 := by kernel_rfl
 m15 := by kernel_rfl
 m16 := by kernel_rfl
 m17 := by kernel_rfl
 m18 := by kernel_rfl
 m19 := by kernel_rfl
 c0 := by kernel_rfl
 c2 := by kernel_rfl
 c3 := by kernel_rfl
 c4 := by kernel_rfl
 c5 := by kernel_rfl
 c9 := by kernel_rfl
 c20 := by kernel_rfl
 c21 := by kernel_rfl
 c37 := by kernel_rfl
 c46 := by kernel_rfl
 c51 := by kernel_rfl
 c53 := by kernel_rfl
 c75 := by kernel_rfl
 c80 := by kernel_rfl
 c85 := by kernel_rfl
 c127 := by kernel_rfl
 c143 := by kernel_rfl
 c145 := by kernel_rfl
 c167 := by kernel_rfl
 c168 := by kernel_rfl
 c171 := by kernel_rfl
 c173 := by kernel_rfl
 c175 := by kernel_rfl
 c210 := by kernel_rfl
 c212 := by kernel_rfl
 c213 := by kernel_rfl
 c232 := by kernel_rfl
 c233 := by kernel_rfl }
open Go.RowKit in
open Go.RowKit in
open Go.RowKit in
open Go.RowKit in
/-- strconv.ParseInt(s, 10, 64), AT EVERY STRING THAT SPELLS AN int64 ('Lib.parseIntB 64 s.data.toList = .ok v'): v, AND NO ERROR. (LAID: no walk: one application.) -/
theorem Tryz.strconv_ParseInt_10_at64_ok (s : ByteArray) (hmax : s.size ≤ 9223372036854775806) (v : Int) (h : Lib.parseIntB 64 s.data.toList = .ok v) (w : World) :
  Calls Tryz.prog 74 #[.string s, .int .i64 10, .int .i64 64] w fun e w' => e = .returned (.tuple #[.int .i64 v, .nilIface]) ∧ (w' = w ∨ ∃ t, w' = Lib.bytesWorld w 5 t) := Any.strconv_ParseInt_10_at64_ok Tryz.laysC174 s hmax v h w
open Go.RowKit in
open Go.RowKit in
open Go.RowKit in
open Go.RowKit in
open Go.RowKit in
open Go.RowKit in
open Go.RowKit in
open Go.RowKit in
open Go.RowKit in
open Go.RowKit in
open Go.RowKit in
open Go.RowKit in
open Go.RowKit in
open Go.RowKit in
theorem Tryz.strconv_ParseInt_10_at64_syntax_var (s : ByteArray) (hlim : s.size ≤ 281474976710656) (h : Lib.parseIntB 64 s.data.toList = .«syntax») (tp : TypeId) (p : Value) (w : World) (hvar : w.var? Tryz.prog "strconv.ErrSyntax" = some #[.iface tp p]) :
  Calls Tryz.prog 74 #[.string s, .int .i64 10, .int .i64 64] w fun e w' => ∃ N, e = .returned (.tuple #[.int .i64 (0), .iface 155 (.pointer (some ⟨N, 0, none⟩))]) ∧ w.heap.size ≤ N ∧ w'.heap[N]? = some (.cells #[.string ⟨#[80, 97, 114, 115, 101, 73, 110, 116]⟩, .string s, .iface tp p] 178 (0, 0)) ∧ Below w.heap.size w w' := Any.strconv_ParseInt_10_at64_syntax_var Tryz.laysC174 s hlim h tp p w hvar
open Go.RowKit in
theorem Tryz.strconv_ParseInt_10_at64_range_var (s : ByteArray) (hlim : s.size ≤ 281474976710656) (h : Lib.parseIntB 64 s.data.toList = .range) (tp : TypeId) (p : Value) (w : World) (hvar : w.var? Tryz.prog "strconv.ErrRange" = some #[.iface tp p]) :
  Calls Tryz.prog 74 #[.string s, .int .i64 10, .int .i64 64] w fun e w' => ∃ N, e = .returned (.tuple #[.int .i64 (Lib.intSat 64 s.data.toList), .iface 155 (.pointer (some ⟨N, 0, none⟩))]) ∧ w.heap.size ≤ N ∧ w'.heap[N]? = some (.cells #[.string ⟨#[80, 97, 114, 115, 101, 73, 110, 116]⟩, .string s, .iface tp p] 178 (0, 0)) ∧ Below w.heap.size w w' := Any.strconv_ParseInt_10_at64_range_var Tryz.laysC174 s hlim h tp p w hvar
open Go.RowKit in
open Go.RowKit in
open Go.RowKit in
open Go.RowKit in
open Go.RowKit in
open Go.RowKit in
def Tryz.lays146_ren : Go.Shelf.Ren := ⟨fun | 146 => 29 | 221 => 47 | 268 => 71 | 138 => 72 | 143 => 73 | 195 => 101 | 197 => 102 | 218 => 103 | 219 => 104 | 260 => 123 | 217 => 124 | 225 => 125 | 224 => 126 | 267 => 127 | 266 => 141 | 314 => 142 | n => n, fun | 9 => 9 | 31 => 46 | 3 => 3 | 4 => 4 | 0 => 0 | 105 => 135 | 21 => 21 | 5 => 5 | 46 => 150 | 119 => 168 | 139 => 171 | 138 => 170 | 146 => 172 | 51 => 147 | n => n, fun | 1 => 1 | 3 => 2 | 4 => 3 | n => n⟩
theorem Tryz.lays146 : Go.Proofs.Lays.n146 Tryz.prog Tryz.lays146_ren := {
 mixed := by kernel_rfl
 f138 := Tryz.func72.trans (congrArg some (by kernel_rfl))
 f143 := Tryz.func73.trans (congrArg some (by kernel_rfl))
 f146 := Tryz.func29.trans (congrArg some (by kernel_rfl))
 f195 := Tryz.func101.trans (congrArg some (by kernel_rfl))
 f197 := Tryz.func102.trans (congrArg some (by kernel_rfl))
 f217 := Tryz.func124.trans (congrArg some (by kernel_rfl))
 f218 := Tryz.func103.trans (congrArg some (by kernel_rfl))
 f219 := Tryz.func104.trans (congrArg some (by kernel_rfl))
 f221 := Tryz.func47.trans (congrArg some (by kernel_rfl))
 f224 := Tryz.func126.trans (congrArg some (by kernel_rfl))
 f225 := Tryz.func125.trans (congrArg some (by kernel_rfl))
 f260 := Tryz.func123.trans (congrArg some (by kernel_rfl))
 f266 := Tryz.func141.trans (congrArg some (by kernel_rfl))
 f267 := Tryz.func127.trans (congrArg some (by kernel_rfl))
 f268 := Tryz.func71.trans (congrArg some (by kernel_rfl))
 f314 := Tryz.func142.trans (congrArg some (by kernel_rfl))
 t0 := Tryz.underlying0
 a0 := Tryz.isAgg0
 z0 := Tryz.sizeOf0
 v0 := Tryz.zeroValue0
 t3 := Tryz.underlying3
 a3 := Tryz.isAgg3
 z3 := Tryz.sizeOf3
 v3 := Tryz.zeroValue3
 t4 := Tryz.underlying4
 a4 := Tryz.isAgg4
 z4 := Tryz.sizeOf4
 v4 := Tryz.zeroValue4
 t5 := Tryz.underlying5
 a5 := Tryz.isAgg5
 z5 := Tryz.sizeOf5
 v5 := Tryz.zeroValue5
 t9 := Tryz.underlying9
 a9 := Tryz.isAgg9
 z9 := Tryz.sizeOf9
 v9 := Tryz.zeroValue9
 t21 := Tryz.underlying21
 a21 := Tryz.isAgg21
 z21 := Tryz.sizeOf21
 v21 := Tryz.zeroValue21
 t31 := Tryz.underlying46
 a31 := Tryz.isAgg46
 z31 := Tryz.sizeOf46
 v31 := Tryz.zeroValue46
 t46 := Tryz.underlying150
 a46 := Tryz.isAgg150
 z46 := Tryz.sizeOf150
 v46 := Tryz.zeroValue150
 t51 := Tryz.underlying147
 a51 := Tryz.isAgg147
 z51 := Tryz.sizeOf147
 v51 := Tryz.zeroValue147
 t105 := Tryz.underlying135
 a105 := Tryz.isAgg135
 z105 := Tryz.sizeOf135
 v105 := Tryz.zeroValue135
 t119 := Tryz.underlying168
 a119 := Tryz.isAgg168
 z119 := Tryz.sizeOf168
 t138 := Tryz.underlying170
 a138 := Tryz.isAgg170
 z138 := Tryz.sizeOf170
 v138 := Tryz.zeroValue170
 t139 := Tryz.underlying171
 a139 := Tryz.isAgg171
 z139 := Tryz.sizeOf171
 v139 := Tryz.zeroValue171
 t146 := Tryz.underlying172
 a146 := Tryz.isAgg172
 z146 := Tryz.sizeOf172
 v146 := Tryz.zeroValue172
 g1 := by kernel_rfl
 g3 := by kernel_rfl
 g4 := by kernel_rfl }
open Go.RowKit Go.Lib in
/-- strings.Split. (LAID: no walk: one application.) -/
theorem Tryz.strings_Split (s sep : ByteArray) (m : Int) (w : World) (hs : s.size < 4294967281) (hm : w.cell? ⟨1, 0, none⟩ = some (.int .i64 m)) (h1 : 1 ≤ sep.size) :
  Calls Tryz.prog 29 #[.string s, .string sep] w fun e w' =>
   e = .returned (.slice (some ⟨w.heap.size, 0, none⟩) (Lib.countB s sep + 1) (Lib.countB s sep + 1)) ∧ w' = w.alloc (.cells ((Lib.splitB sep 0 (Lib.countB s sep) s).map Value.string).toArray 9) := Any.strings_Split Tryz.lays146 (by kernel_rfl) s sep m w hs hm h1
end Go.Proofs
namespace Go.Proofs.YtbekpololmahoaaGreatDoor
open Go.RowKit
set_option linter.unusedVariables false
set_option linter.unusedSimpArgs false
/-- What the library's variables hold. -/
structure Env (w : World) : Prop where
 tab : Lib.TabIs Tryz.prog w "internal/strconv.uint64pow10" .u64 Lib.pow10Tab
 es : ∃ tp p, w.var? Tryz.prog "strconv.ErrSyntax" = some #[.iface tp p]
 er : ∃ tp p, w.var? Tryz.prog "strconv.ErrRange" = some #[.iface tp p]
 ml : ∃ m, w.var? Tryz.prog "internal/bytealg.MaxLen" = some #[.int .i64 m]
theorem var_below {P : Program} {n : String} {w w' : World} {cs : Array Value} (h : w.var? P n = some cs) (hb : Below w.heap.size w w') : w'.var? P n = some cs := by
 unfold World.var? at h ⊢
 cases hg : P.globalNamed n with
 | none => rw [hg] at h; cases h
 | some g =>
   rw [hg] at h
   simp only [Option.bind_some] at h ⊢
   have hlt : g < w.heap.size := by
    rcases Nat.lt_or_ge g w.heap.size with h' | h'
    ·exact h'
    ·rw [Array.getElem?_eq_none h'] at h; cases h
   rw [hb.block g hlt]
   exact h
theorem Env.below {w w' : World} (h : Env w) (hb : Below w.heap.size w w') : Env w' :=
 ⟨var_below h.tab hb, h.es.imp fun _ => Exists.imp fun _ h => var_below h hb, h.er.imp fun _ => Exists.imp fun _ h => var_below h hb, h.ml.imp fun _ h => var_below h hb⟩
theorem text_all (n : Int) (h0 : -9223372036854775808 ≤ n) (h1 : n ≤ 9223372036854775807) (w : World) (hE : Env w) :
  Calls Tryz.prog 23 #[.int .i64 n] w fun e w' => e = .returned (.string (bs (Lib.itoa n))) ∧ Below w.heap.size w w' := by
 have hc := Go.Proofs.Tryz.strconv_FormatInt_10 n h0 h1 w hE.tab
 have HC := Lib.hid hc; clear hc
 go_enter Tryz.func23, Tryz.ntmps23
 go_wp2_with fail
 refine HC.out.mono ?_
 rintro e' w2 ⟨rfl, k, os, hw⟩
 have hb : Below w.heap.size w w2 := by rw [hw]; exact Lib.below_grow w.heap.size w (Nat.le_refl _) k os
 clear hw
 go_wp2_with fail
 go_ret
 exact ⟨rfl, hb⟩
set_option maxRecDepth 100000 in
set_option maxHeartbeats 1000000 in
theorem number_any (l : List UInt8) (W : World) (hl : l.length ≤ 1048576) (hE : Env W) :
  Calls Tryz.prog 48 #[.string (bs l)] W fun e' w' => ∃ n, e' = .returned (.tuple #[.int .i64 n, .bool (numI l).1]) ∧ ((numI l).1 = true → n = (numI l).2) ∧ Below W.heap.size W w' := by
 have hd : (bs l).data.toList = l := bs_data l
 have hz : (bs l).size = l.length := bs_size l
 cases hp : Lib.parseIntB 64 l with
 | ok v =>
   have hb := Lib.parseIntB_bounds hp
   have hc := Go.Proofs.Tryz.strconv_ParseInt_10_at64_ok (bs l) (by omega) v (by rw [hd]; exact hp) W
   have hn : numI l = (decide (Lib.itoa v = l), v) := by unfold numI; rw [hp]
   rw [← str_eq] at hn
   have H := Lib.hid (And.intro hc (And.intro hn (And.intro hb hE))); clear hc hn hb hE hp hd
   go_enter Tryz.func48, Tryz.ntmps48
   go_wp2_with fail
   refine H.out.1.mono ?_
   rintro e' w2 ⟨rfl, hw⟩
   have hb2 : Below W.heap.size W w2 := by
    rcases hw with rfl | ⟨t, rfl⟩
    ·exact Below.refl _ _
    ·exact Lib.bytesWorld_below _ _ _
   clear hw
   go_wp2_with fail
   refine (text_all v (by have := H.out.2.2.1.1; omega) (by have := H.out.2.2.1.2; omega) _ (H.out.2.2.2.below hb2)).mono ?_
   rintro e' w3 ⟨rfl, hb3⟩
   go_wp2_with fail
   go_ret2
   exact ⟨v, by rw [H.out.2.1]; rfl, fun _ => by rw [H.out.2.1], hb2.trans (hb3.mono hb2.size)⟩
 | «syntax» =>
   obtain ⟨tp, p, hv⟩ := hE.es
   have hc := Go.Proofs.Tryz.strconv_ParseInt_10_at64_syntax_var (bs l) (by omega) (by rw [hd]; exact hp) tp p W hv
   have hn : numI l = (false, 0) := by unfold numI; rw [hp]
   have H := Lib.hid (And.intro hc hn); clear hc hn hp hd hv hE
   go_enter Tryz.func48, Tryz.ntmps48
   go_wp2_with fail
   refine H.out.1.mono ?_
   rintro e' w2 ⟨N, rfl, _, _, hb2⟩
   go_wp2_with fail
   go_ret2
   exact ⟨_, by rw [H.out.2]; rfl, (fun h => absurd h (by rw [H.out.2]; decide)), hb2⟩
 | range =>
   obtain ⟨tp, p, hv⟩ := hE.er
   have hc := Go.Proofs.Tryz.strconv_ParseInt_10_at64_range_var (bs l) (by omega) (by rw [hd]; exact hp) tp p W hv
   have hn : numI l = (false, 0) := by unfold numI; rw [hp]
   have H := Lib.hid (And.intro hc hn); clear hc hn hp hd hv hE
   go_enter Tryz.func48, Tryz.ntmps48
   go_wp2_with fail
   refine H.out.1.mono ?_
   rintro e' w2 ⟨N, rfl, _, _, hb2⟩
   go_wp2_with fail
   go_ret2
   exact ⟨_, by rw [H.out.2]; rfl, (fun h => absurd h (by rw [H.out.2]; decide)), hb2⟩
theorem SW.keep {w w' : World} {g off n c : Nat} {ws : List (List UInt8)} (h : SW w (.slice (some ⟨g, off, none⟩) n c) ws) (hk : w'.heap[g]? = w.heap[g]?) : SW w' (.slice (some ⟨g, off, none⟩) n c) ws := by
 obtain ⟨a, c', e, h⟩ := h
 cases e
 refine ⟨_, _, rfl, fun k hkl => ?_⟩
 obtain ⟨g', off', ha, hc⟩ := h k hkl
 cases ha
 exact ⟨_, _, rfl, cell_keep hc hk⟩
theorem split_any (l : List UInt8) (c : UInt8) (W : World) (hl : l.length ≤ 1048576) (hE : Env W) :
  Calls Tryz.prog 29 #[.string (bs l), .string (bs [c])] W fun e' w' => ∃ cp, e' = .returned (.slice (some ⟨W.heap.size, 0, none⟩) (splitL c l).length cp) ∧ SW w' (.slice (some ⟨W.heap.size, 0, none⟩) (splitL c l).length cp) (splitL c l) ∧ W.heap.size < w'.heap.size ∧ Below W.heap.size W w' := by
 obtain ⟨m, hm⟩ := hE.ml
 have hc := Go.Proofs.Tryz.strings_Split (bs l) (bs [c]) m W (by rw [bs_size]; omega) (by refine (World.var?_cell ?_ hm 0).trans rfl; kernel_rfl) (by rw [bs_size]; exact Nat.le_refl _)
 have hall := Lib.splitB_all (bs [c]) (by rw [bs_size]; exact Nat.le_refl _) 0 (Lib.countB (bs l) (bs [c])) (bs l) rfl
 have hdat := Lib.splitB_data (bs [c]) 0 (Lib.countB (bs l) (bs [c])) (bs l)
 rw [bs_data, bs_data] at hdat
 have hcnt : Lib.countB (bs l) (bs [c]) = Lib.count l [c] := by unfold Lib.countB; rw [bs_data, bs_data]
 have hsp : Lib.splitK [c] 0 (Lib.countB (bs l) (bs [c])) l = splitL c l := by rw [hcnt]; exact split_lib c l
 rw [hsp] at hdat
 obtain ⟨B, hB⟩ : ∃ B, Lib.splitB (bs [c]) 0 (Lib.countB (bs l) (bs [c])) (bs l) = B := ⟨_, rfl⟩
 rw [hB] at hall hdat hc
 have hlen : (splitL c l).length = B.length := by rw [← hdat, List.length_map]
 rw [← hall, ← hlen] at hc
 refine hc.mono ?_
 rintro e w' ⟨rfl, hw⟩
 have hb : Below W.heap.size W w' := by rw [hw]; exact (Below.refl _ _).alloc (Nat.le_refl _) _
 have hh : w'.heap[W.heap.size]? = some (.cells (B.map Value.string).toArray 9 (0, 0)) := by rw [hw]; exact heap_alloc_self _ _
 refine ⟨_, rfl, ⟨_, _, rfl, fun k hk => ⟨_, _, rfl, ?_⟩⟩, lt_of_heap hh, hb⟩
 rw [cell_of_block hh, Nat.zero_add]
 have hkB : k < B.length := by omega
 have hgw : getw (splitL c l) k = (B[k]).data.toList := by
  unfold getw
  rw [← hdat]
  simp [List.getD_eq_getElem?_getD, List.getElem?_eq_getElem hkB]
 have hbb : bs (getw (splitL c l) k) = B[k] := by
  rw [hgw]
  rfl
 rw [hbb]
 simp [List.getElem?_eq_getElem hkB]
def okN (ps : List (List UInt8)) : Nat → Bool
 | 0 => true
 | k + 1 => okN ps k && (numI (getw ps k)).1
def valsTo (ps : List (List UInt8)) : Nat → List Int
 | 0 => []
 | k + 1 => valsTo ps k ++ [(numI (getw ps k)).2]
theorem okN_false {ps : List (List UInt8)} {k : Nat} (h : okN ps k = false) : ∀ n, k ≤ n → okN ps n = false := by
 intro n hn
 induction n with
 | zero => obtain rfl : k = 0 := by omega
           exact h
 | succ n ih =>
   by_cases e : k = n + 1
   ·subst e; exact h
   ·unfold okN; rw [ih (by omega)]; rfl
set_option maxRecDepth 100000 in
set_option maxHeartbeats 4000000 in
theorem parted_any (w : List UInt8) (W : World) (hl : w.length ≤ 1048576) (hE : Env W) :
  Calls Tryz.prog 30 #[.string (bs w), .string (bs [47])] W fun e' w' => ∃ v', e' = .returned (.tuple #[v', .bool (okN (splitL 47 w) (splitL 47 w).length)]) ∧ (okN (splitL 47 w) (splitL 47 w).length = true → w'.ownsRow W.heap.size 2 1 v' (splitL 47 w).length ((valsTo (splitL 47 w) (splitL 47 w).length).map (Value.int .i64))) ∧ (∃ a n c, v' = .slice a n c) ∧ Below W.heap.size W w' := by
 have hplen := split_len 47 w
 have hpw := split_word 47 w
 have hown0 := own_lit0 W W.heap.size 2 1 (Nat.le_refl _)
 have hbl : Below W.heap.size W (W.alloc (.cells #[] 2)) := (Below.refl _ _).alloc (Nat.le_refl _) _
 obtain ⟨wx, hwx0⟩ : ∃ wx, wx = W.alloc (.cells #[] 2) := ⟨_, rfl⟩
 have hzx : W.heap.size < wx.heap.size := by rw [hwx0]; simp
 rw [← hwx0] at hown0 hbl
 have hsp := split_any w 47 wx hl (hE.below hbl)
 obtain ⟨ps, hps⟩ : ∃ ps, splitL 47 w = ps := ⟨_, rfl⟩
 rw [hps] at hplen hpw hsp ⊢
 have HP := Lib.hid (And.intro hpw (And.intro hsp (And.intro hown0 (And.intro hbl (And.intro hwx0 hE))))); clear hps hpw hsp hown0 hbl hE
 go_enter Tryz.func30, Tryz.ntmps30
 go_wp2_with fail
 rw [← HP.out.2.2.2.2.1]
 clear hwx0
 refine HP.out.2.1.mono ?_
 rintro e' w2 ⟨cp, rfl, hsw, hgl, hb2⟩
 have hB2 : Below W.heap.size W w2 := HP.out.2.2.2.1.trans (hb2.mono (by omega))
 have H2 := Lib.hid (And.intro hsw (And.intro hB2 (own_chg HP.out.2.2.1 (Chg.of_below (F := fun _ => False) hb2) (fun _ _ h => h)))); clear hsw hb2 hB2
 go_wp2_with fail
 go_loopw [6, 16] (fun ou i wr => ∃ k : Nat, k ≤ ps.length ∧ i = .int .i64 k ∧ okN ps k = true ∧ wr.ownsRow W.heap.size 2 1 ou k ((valsTo ps k).map (Value.int .i64)) ∧ ou.ownBlock ≠ some wx.heap.size ∧ wx.heap.size < wr.heap.size ∧ wr.heap[wx.heap.size]? = w2.heap[wx.heap.size]? ∧ Below W.heap.size W wr) (fun _ i _ => ps.length - (intOf i).toNat)
 case atStart => exact ⟨0, Nat.zero_le _, rfl, rfl, H2.out.2.2, (fun e => by simp [Value.ownBlock] at e; omega), hgl, rfl, H2.out.2.1⟩
 case round =>
  obtain ⟨k, hk, rfl, hok, hown, hne, hgr, hhr, hB⟩ := hrel
  have hzW := hB.size
  obtain ⟨oa, oc, rfl, _, _⟩ := own_form hown
  obtain ⟨wo, rfl⟩ : ∃ q, q = wr := ⟨_, rfl⟩
  have hsw := H2.out.1.keep hhr
  by_cases hkk : k < ps.length
  ·obtain ⟨g, off, e, _, hcw⟩ := hsw.cell hkk
   cases e
   rw [Nat.zero_add] at hcw
   have hkn : ¬ ps.length ≤ k := by omega
   have hkd : decide (k < ps.length) = true := decide_eq_true hkk
   have hlw : (getw ps k).length ≤ 1048576 := by have := HP.out.1 k; omega
   have hnum := number_any (getw ps k) wo hlw (HP.out.2.2.2.2.2.below hB)
   have hoks : okN ps (k + 1) = (numI (getw ps k)).1 := by unfold okN; rw [hok]; rfl
   have hvs : (valsTo ps (k + 1)).map (Value.int .i64) = (valsTo ps k).map (Value.int .i64) ++ [.int .i64 (numI (getw ps k)).2] := by simp [valsTo]
   obtain ⟨p, hp⟩ : ∃ p, getw ps k = p := ⟨_, rfl⟩
   rw [hp] at hcw hnum hoks hvs
   obtain ⟨r, hr⟩ : ∃ r, numI p = r := ⟨_, rfl⟩
   rw [hr] at hnum hoks hvs
   have HS := Lib.hid (And.intro hnum (And.intro hoks (And.intro hvs (And.intro hown (And.intro hne (And.intro hhr hB)))))); clear hnum hoks hvs hown hne hhr hB hok hsw hp hr hlw
   go_wp2_with fail
   refine HS.out.1.mono ?_
   rintro e' w3 ⟨n, rfl, hn, hb3⟩
   have hB3 : Below W.heap.size W w3 := HS.out.2.2.2.2.2.2.trans (hb3.mono hzW)
   have hz3 := hb3.size
   cases hr1 : r.1
   ·have hbad : okN ps ps.length = false := okN_false (k := k + 1) (by rw [HS.out.2.1, hr1]) _ (by omega)
    have Hb := Lib.hid (And.intro hbad (And.intro hr1 (And.intro hn hB3))); clear hbad hr1 hn hB3 hb3 hcw
    go_wp2_with fail
    go_ret2
    exact ⟨_, by rw [Hb.out.1]; rfl, (fun h => absurd h (by rw [Hb.out.1]; decide)), ⟨_, _, _, rfl⟩, Hb.out.2.2.2⟩
   ·have hn2 := hn hr1
    have hown3 := own_chg HS.out.2.2.2.1 (Chg.of_below (F := fun _ => False) hb3) (fun _ _ h => h)
    have hh3 : w3.heap[wx.heap.size]? = w2.heap[wx.heap.size]? := (hb3.block _ hgr).trans HS.out.2.2.2.2.2.1
    have Hn := Lib.hid (And.intro hr1 (And.intro hn2 (And.intro hh3 hB3))); clear hr1 hn2 hn hh3 hB3 hb3 hcw
    go_wp2_with ((at_builtin; refine wp_app1 _ rfl _ _ 57 rfl W.heap.size 2 (.int .i64 0) 8 Tryz.underlying57 inf_int rfl _ _ _ rfl hown3 (.int .i64 n) _ rfl rfl (by omega) (by omega) (by omega) ?_; intro v1 w1 hown1 hgrow1 hblk1 hB1); refine Hid.out ?_)
    refine Lib.hid ?_
    have hne8 : v1.ownBlock ≠ some wx.heap.size := fun e => by
     rcases hblk1 with h | ⟨g, h, hg⟩
     ·exact HS.out.2.2.2.2.1 (h.symm.trans e)
     ·rw [e] at h; cases h; omega
    have hh8 : w1.heap[wx.heap.size]? = w2.heap[wx.heap.size]? := (hgrow1.block _ (by omega) (fun e => HS.out.2.2.2.2.1 e.symm)).trans Hn.out.2.2.1
    have hz8 := hB1.size
    have HB := Lib.hid (And.intro hown1 (And.intro (Hn.out.2.2.2.trans hB1) (And.intro hne8 hh8))); clear hown1 hB1 hown3 hgrow1 hblk1 hne8 hh8
    obtain ⟨na, nc, rfl, _, _⟩ := own_form HB.out.1
    go_wp2_with fail
    go_roundw
    case rel => exact ⟨k + 1, by omega, by go_num, by rw [HS.out.2.1]; exact Hn.out.1, by rw [HS.out.2.2.1, ← Hn.out.2.1]; exact HB.out.1, HB.out.2.2.1, by omega, HB.out.2.2.2, HB.out.2.1⟩
    case measure => simp [intOf]; omega
  ·obtain rfl : k = ps.length := by omega
   have hkd : decide (ps.length < ps.length) = false := decide_eq_false (Nat.lt_irrefl _)
   have HF := Lib.hid (And.intro hok (And.intro hown hB)); clear hok hown hB hsw hne hhr
   go_wp2_with fail
   go_ret2
   exact ⟨_, by rw [HF.out.1]; rfl, fun _ => HF.out.2.1, ⟨_, _, _, rfl⟩, HF.out.2.2⟩
theorem infS : (Tryz.prog.info? 48).map (fun i => (i.zero, i.size, i.bytes)) = some (some (.agg #[.int .i64 0, .int .i64 0]), 2, 16) := by kernel_rfl
/-- The two cells of a pair that a part of the program has made. -/
theorem pair_cells {w : World} {B : Nat} {v : Value} {x y : Int} (h : w.ownsRow B 2 1 v 2 [.int .i64 x, .int .i64 y]) : ∃ g c, v = .slice (some ⟨g, 0, none⟩) 2 c ∧ 2 ≤ c ∧ B ≤ g ∧ g < w.heap.size ∧ w.cell? ⟨g, 0, none⟩ = some (.int .i64 x) ∧ w.cell? ⟨g, 1, none⟩ = some (.int .i64 y) := by
 rcases h.2 with ⟨_, h0⟩ | ⟨g, cap, cur, rfl, h1, h2, h3, _⟩
 ·cases h0
 ·have h7 := own_cellS (c := cap) h
  exact ⟨g, cap, rfl, h3, h1, h7.1, by have := h7.2.2 0 _ rfl; rwa [Nat.zero_add] at this, by have := h7.2.2 1 _ rfl; rwa [Nat.zero_add] at this⟩
set_option maxRecDepth 100000 in
set_option maxHeartbeats 8000000 in
theorem ParseSteps_any (t : List UInt8) (W : World) (hl : t.length ≤ 1048576) (hE : Env W) :
  Calls Tryz.prog 9 #[.string (bs t)] W fun e' w' => ∃ v', e' = .returned (.tuple #[v', .int .i64 (psAns t).2]) ∧ FS W.heap.size w' v' (psAns t).1 ∧ Below W.heap.size W w' := by
 rw [← ps_eq t]
 by_cases ht : t = []
 ·subst ht
  have hans : psImp [] = ([], 0) := rfl
  have H := Lib.hid hans; clear hans
  have he : bs [] = (ByteArray.mk #[]) := rfl
  rw [he]
  clear he
  go_enter Tryz.func9, Tryz.ntmps9
  go_wp2_with fail
  go_ret2
  exact ⟨_, by rw [H.out]; rfl, by rw [H.out]; exact FS.nil, Below.refl _ _⟩
 ·have hne : (bs t).toList.isEmpty = false := by
   rw [bs_toList]
   cases t with
   | nil => exact absurd rfl ht
   | cons x r => rfl
  have hplen := split_len 32 t
  have hpw := split_word 32 t
  have hown0 := own_lit0 W W.heap.size 48 2 (Nat.le_refl _)
  have hbl : Below W.heap.size W (W.alloc (.cells #[] 48)) := (Below.refl _ _).alloc (Nat.le_refl _) _
  obtain ⟨wx, hwx0⟩ : ∃ wx, wx = W.alloc (.cells #[] 48) := ⟨_, rfl⟩
  have hzx : W.heap.size < wx.heap.size := by rw [hwx0]; simp
  rw [← hwx0] at hown0 hbl
  have hsp := split_any t 32 wx hl (hE.below hbl)
  obtain ⟨ws, hws⟩ : ∃ ws, splitL 32 t = ws := ⟨_, rfl⟩
  rw [hws] at hplen hpw hsp
  have HP := Lib.hid (And.intro hpw (And.intro hsp (And.intro hown0 (And.intro hbl (And.intro hwx0 (And.intro hws hE)))))); clear hws hpw hsp hown0 hbl hE
  go_enter Tryz.func9, Tryz.ntmps9
  go_wp2_with fail
  rw [← HP.out.2.2.2.2.1]
  clear hwx0
  refine HP.out.2.1.mono ?_
  rintro e' w2 ⟨cp, rfl, hsw, hgl, hb2⟩
  have hB2 : Below W.heap.size W w2 := HP.out.2.2.2.1.trans (hb2.mono (by omega))
  have H2 := Lib.hid (And.intro hsw (And.intro hB2 (own2_keep HP.out.2.2.1 hb2))); clear hsw hb2 hB2
  go_wp2_with fail
  go_loopw [4, 17] (fun ou i wr => ∃ k : Nat, k ≤ ws.length ∧ i = .int .i64 k ∧ okTo pstI ws k = true ∧ wr.ownsRow W.heap.size 48 2 ou k (flS (outTo pstI ws k)) ∧ ou.ownBlock ≠ some wx.heap.size ∧ wx.heap.size < wr.heap.size ∧ wr.heap[wx.heap.size]? = w2.heap[wx.heap.size]? ∧ Below W.heap.size W wr) (fun _ i _ => ws.length - (intOf i).toNat)
  case atStart => exact ⟨0, Nat.zero_le _, rfl, rfl, H2.out.2.2, (fun e => by simp [Value.ownBlock] at e; omega), hgl, rfl, H2.out.2.1⟩
  case round =>
   obtain ⟨k, hk, rfl, hok, hown, hne', hgr, hhr, hB⟩ := hrel
   have hzW := hB.size
   obtain ⟨oa, oc, rfl, _, _⟩ := own2_form hown
   obtain ⟨wo, rfl⟩ : ∃ q, q = wr := ⟨_, rfl⟩
   have hsw := H2.out.1.keep hhr
   by_cases hkk : k < ws.length
   ·obtain ⟨g, off, e, _, hcw⟩ := hsw.cell hkk
    cases e
    rw [Nat.zero_add] at hcw
    have hkn : ¬ ws.length ≤ k := by omega
    have hkd : decide (k < ws.length) = true := decide_eq_true hkk
    obtain ⟨w, hw⟩ : ∃ w, getw ws k = w := ⟨_, rfl⟩
    have hoks : okTo pstI ws (k + 1) = (pstI w).1 := by rw [← hw]; unfold okTo; rw [hok]; rfl
    have houts : outTo pstI ws (k + 1) = outTo pstI ws k ++ [(pstI w).2] := by rw [← hw]; rfl
    have hlw : w.length ≤ 1048576 := by rw [← hw]; have := HP.out.1 k; omega
    rw [hw] at hcw
    have HS := Lib.hid (And.intro hoks (And.intro houts (And.intro hown (And.intro hne' (And.intro hhr hB))))); clear hoks houts hw hown hne' hhr hsw hB hok
    by_cases hplus : w = [43]
    ·have hpl : ((bs w).toList == [43]) = true := by rw [bs_toList, hplus]; rfl
     have hst : pstI w = (true, (-1, 0)) := by unfold pstI; rw [if_pos hplus]
     have Hst := Lib.hid hst; clear hst
     have hown5 := HS.out.2.2.1
     clear hplus
     have hzA : (wo.alloc (.cells #[.int .i64 (-1), .int .i64 (0)] 48)).heap.size = wo.heap.size + 1 := by simp
     go_wp2_with (at_builtin; refine wp_app rfl _ _ 24 rfl W.heap.size 48 (.agg #[.int .i64 0, .int .i64 0]) 2 16 Tryz.underlying24 infS rfl (by omega) _ _ _ rfl (hown5.alloc _) ⟨_, 0, none⟩ 1 1 [.int .i64 (-1), .int .i64 (0)] rfl rfl (World.news_of_block (heap_alloc_new _ _)) (by simp [Value.oneCell']) (by unfold maxLen; omega) (by omega) (by omega) ?_; intro v8 w8 hown8 hgrow8 hblk8; refine Hid.out ?_)
     refine Lib.hid ?_
     have hB8 : Below W.heap.size W w8 := (HS.out.2.2.2.2.2.alloc hzW _).grown hgrow8 (by omega) (fun g hg => (hown5.lt g hg).1)
     have hne8 : v8.ownBlock ≠ some wx.heap.size := fun e => by
      rcases hblk8 with h | h
      ·exact HS.out.2.2.2.1 (h.symm.trans e)
      ·rw [e] at h; have := Option.some.inj h; omega
     have hh8 : w8.heap[wx.heap.size]? = w2.heap[wx.heap.size]? := (hgrow8.block _ (by omega) (fun e => HS.out.2.2.2.1 e.symm)).trans ((((Below.refl _ _).alloc (Nat.le_refl _) _).block _ hgr).trans HS.out.2.2.2.2.1)
     have hz8 := hgrow8.size
     have HB := Lib.hid (And.intro hown8 (And.intro hB8 (And.intro hne8 hh8))); clear hown8 hgrow8 hblk8 hB8 hne8 hh8 hown5
     obtain ⟨na, nc, rfl, _, _⟩ := own2_form HB.out.1
     go_wp2_with fail
     go_roundw
     case rel => exact ⟨k + 1, by omega, by go_num, by rw [HS.out.1, Hst.out], by rw [HS.out.2.1, flS_snoc, Hst.out]; exact HB.out.1, HB.out.2.2.1, by omega, HB.out.2.2.2, HB.out.2.1⟩
     case measure => simp [intOf]; omega
    ·have hpl : ((bs w).toList == [43]) = false := by rw [bs_toList]; simp [hplus]
     have hpa := parted_any w wo hlw (HP.out.2.2.2.2.2.2.below HS.out.2.2.2.2.2)
     have hunf : pstI w = pairI (splitL 47 w) := pstI_pair hplus
     obtain ⟨ps, hps⟩ : ∃ ps, splitL 47 w = ps := ⟨_, rfl⟩
     rw [hps] at hpa hunf
     obtain ⟨ok, hok⟩ : ∃ ok, okN ps ps.length = ok := ⟨_, rfl⟩
     have Hps := Lib.hid (And.intro hunf hok)
     rw [hok] at hpa
     clear hunf hps hplus hok
     go_wp2_with fail
     refine hpa.mono ?_
     rintro e' w3 ⟨pv, rfl, hpv, ⟨pa, pn, pc, rfl⟩, hb3⟩
     have hB3 : Below W.heap.size W w3 := HS.out.2.2.2.2.2.trans (hb3.mono hzW)
     have hz3 := hb3.size
     clear hpa
     cases ok
     ·have hst : (pstI w).1 = false := by
       rw [Hps.out.1]
       by_cases h2 : ps.length = 2
       ·obtain ⟨p0, p1, rfl⟩ := two_of h2
        have := Hps.out.2
        exact this
       ·exact pairI_ne h2
      have hbad : psImp t = ([], 6) := by
       unfold psImp
       rw [if_neg ht, HP.out.2.2.2.2.2.1]
       rw [if_pos (ok_false (k := k + 1) (by rw [HS.out.1, hst]) _ (by omega))]
      have Hbad := Lib.hid hbad; clear hbad
      clear hst hpv hcw hb3
      go_wp2_with fail
      go_ret2
      exact ⟨_, by rw [Hbad.out]; rfl, by rw [Hbad.out]; exact FS.nil, hB3⟩
     ·have hpo := hpv rfl
      obtain ⟨_, _, e, _, _⟩ := own_form hpo
      cases e
      clear hpv
      by_cases h2 : ps.length = 2
      ·obtain ⟨p0, p1, rfl⟩ := two_of h2
       have h3 := Hps.out.2
       have hst : pstI w = (true, ((numI p0).2, (numI p1).2)) := by
        rw [Hps.out.1]
        show ((numI p0).1 && (numI p1).1, _) = _
        rw [show ((numI p0).1 && (numI p1).1) = true from h3]
       have hpo : w3.ownsRow wo.heap.size 2 1 (.slice pa 2 pc) 2 [.int .i64 (numI p0).2, .int .i64 (numI p1).2] := hpo
       obtain ⟨x, hx⟩ : ∃ x, (numI p0).2 = x := ⟨_, rfl⟩
       obtain ⟨y, hy⟩ : ∃ y, (numI p1).2 = y := ⟨_, rfl⟩
       rw [hx, hy] at hst hpo
       obtain ⟨pg, pc', e, hpc, hpg, hpl3, hc0, hc1⟩ := pair_cells hpo
       cases e
       have hown3 := own2_keep HS.out.2.2.1 hb3
       have hh3 : w3.heap[wx.heap.size]? = w2.heap[wx.heap.size]? := (hb3.block _ hgr).trans HS.out.2.2.2.2.1
       have Hn := Lib.hid (And.intro hst (And.intro hh3 (And.intro hB3 hown3))); clear hst hh3 hB3 hown3 hpo hb3 hcw h2 h3 hx hy
       obtain ⟨i0, gi, gz0, gz1, gz2⟩ := info_parts infS
       go_wp2_with fail
       refine wp_region_noPanic ?_
       refine wp_region_held_drew (S := fun w' => w'.cell? ⟨pg, 0, none⟩ = some (.int .i64 x) ∧ w'.cell? ⟨pg, 1, none⟩ = some (.int .i64 y)) (by kernel_rfl) ⟨cell_keep hc0 rfl, cell_keep hc1 rfl⟩ (fun hHeld => ?_)
       (refine wpAnyH_take (i := 0) (v := .slice oa k oc) rfl (by kernel_rfl) (by kernel_rfl) (by kernel_rfl) (fun _ _ _ h => h) (Or.inl ⟨by kernel_rfl, fun w hSw => by (try dsimp only at hSw); go_split_ands; go_simp⟩) (by assumption) ?_; simp only [Act.put, List.setIfInBounds_toArray, List.set_cons_zero, List.set_cons_succ])
       (refine wpAnyH_take (i := 1) (v := .slice (some ⟨pg, 0, none⟩) 2 pc) rfl (by kernel_rfl) (by kernel_rfl) (by kernel_rfl) (fun _ _ _ h => h) (Or.inl ⟨by kernel_rfl, fun w hSw => by (try dsimp only at hSw); go_split_ands; go_simp⟩) (by assumption) ?_; simp only [Act.put, List.setIfInBounds_toArray, List.set_cons_zero, List.set_cons_succ])
       (refine wpAnyH_take (i := 2) (v := .pointer (some ⟨pg, 0, none⟩)) rfl (by kernel_rfl) (by kernel_rfl) (by kernel_rfl) (fun _ _ _ h => h) (Or.inl ⟨by kernel_rfl, fun w hSw => by (try dsimp only at hSw); go_split_ands; go_simp⟩) (by assumption) ?_; simp only [Act.put, List.setIfInBounds_toArray, List.set_cons_zero, List.set_cons_succ])
       (refine wpAnyH_take (i := 3) (v := .int .i64 x) rfl (by kernel_rfl) (by kernel_rfl) (by kernel_rfl) (fun _ _ _ h => h) (Or.inl ⟨by kernel_rfl, fun w hSw => by (try dsimp only at hSw); go_split_ands; go_simp⟩) (by assumption) ?_; simp only [Act.put, List.setIfInBounds_toArray, List.set_cons_zero, List.set_cons_succ])
       (refine wpAnyH_take (i := 4) (v := .slice (some ⟨pg, 0, none⟩) 2 pc) rfl (by kernel_rfl) (by kernel_rfl) (by kernel_rfl) (fun _ _ _ h => h) (Or.inl ⟨by kernel_rfl, fun w hSw => by (try dsimp only at hSw); go_split_ands; go_simp⟩) (by assumption) ?_; simp only [Act.put, List.setIfInBounds_toArray, List.set_cons_zero, List.set_cons_succ])
       (refine wpAnyH_take (i := 5) (v := .pointer (some ⟨pg, 1, none⟩)) rfl (by kernel_rfl) (by kernel_rfl) (by kernel_rfl) (fun _ _ _ h => h) (Or.inl ⟨by kernel_rfl, fun w hSw => by (try dsimp only at hSw); go_split_ands; go_simp⟩) (by assumption) ?_; simp only [Act.put, List.setIfInBounds_toArray, List.set_cons_zero, List.set_cons_succ])
       (refine wpAnyH_take (i := 6) (v := .int .i64 y) rfl (by kernel_rfl) (by kernel_rfl) (by kernel_rfl) (fun _ _ _ h => h) (Or.inl ⟨by kernel_rfl, fun w hSw => by (try dsimp only at hSw); go_split_ands; go_simp⟩) (by assumption) ?_; simp only [Act.put, List.setIfInBounds_toArray, List.set_cons_zero, List.set_cons_succ])
       (refine wpAnyH_take (i := 7) (v := .agg #[.int .i64 x, .int .i64 y]) rfl (by kernel_rfl) (by kernel_rfl) (by kernel_rfl) (fun _ _ _ h => h) (Or.inl ⟨by kernel_rfl, fun w hSw => by (try dsimp only at hSw); go_split_ands; go_simp⟩) (by assumption) ?_; simp only [Act.put, List.setIfInBounds_toArray, List.set_cons_zero, List.set_cons_succ])
       obtain ⟨wb, hwb⟩ : ∃ wb, wb = (w3.alloc (.cells #[.int .i64 x, .int .i64 y] 48)).drew := ⟨_, rfl⟩
       have hbb : Below w3.heap.size w3 wb := by rw [hwb]; exact ((Below.refl _ _).alloc (Nat.le_refl _) _).drew
       have hownb := own2_keep Hn.out.2.2.2 hbb
       have hnb : ∀ j u, [Value.int .i64 x, .int .i64 y][j]? = some u → wb.cell? ((⟨w3.heap.size, 0, none⟩ : Addr).add j) = some u := by rw [hwb]; exact World.news_of_block (heap_alloc_new _ _)
       have hSb : wb.cell? ⟨pg, 0, none⟩ = some (.int .i64 x) ∧ wb.cell? ⟨pg, 1, none⟩ = some (.int .i64 y) := ⟨cell_keep hc0 (hbb.block _ hpl3), cell_keep hc1 (hbb.block _ hpl3)⟩
       have hzb3 := hbb.size
       have hzb : W.heap.size ≤ wb.heap.size := by omega
       have Hwb := Lib.hid hwb; clear hwb hc0 hc1
       refine wpAnyH_ready (rs := [8]) (by kernel_rfl) (by simp) (AllReadyH.cons rfl (fun K hK => ?_) AllReadyH.nil)
       go_simp
       rw [← Hwb.out]
       (refine hK.out _ _ hSb (fun hHeld => ?_); clear hK K; (try simp only [Act.put, List.setIfInBounds_toArray, List.set_cons_zero, List.set_cons_succ]))
       refine wpAnyH_ready (rs := [9]) (by kernel_rfl) (by simp) (AllReadyH.cons rfl (fun K hK => ?_) AllReadyH.nil)
       refine step_append_lies _ (by rfl) _ _ _ (by rfl) W.heap.size 48 i0 _ 2 16 Tryz.underlying24 gi gz0 gz1 gz2 rfl (by omega) _ k _ (by rfl) hownb ⟨_, 0, none⟩ 1 1 [.int .i64 x, .int .i64 y] (by rfl) (by rfl) hnb (by simp [Value.oneCell']) (by omega) (by unfold maxLen; omega) (by omega) hzb _ rfl ?_
       intro gg cap8 w8 hown8 hgrow8 hat8 hlt8
       have hB8 : Below W.heap.size wb w8 := (Below.refl _ _).grown hgrow8 hzb (fun g hg => (hownb.lt g hg).1)
       have hbase : ∀ g, Value.ownBlock (.slice oa k oc) = some g → g < wo.heap.size := fun g hg => (HS.out.2.2.1.lt g hg).2
       have hS8 : w8.cell? ⟨pg, 0, none⟩ = some (.int .i64 x) ∧ w8.cell? ⟨pg, 1, none⟩ = some (.int .i64 y) := by
        have hk8 : w8.heap[pg]? = wb.heap[pg]? := hgrow8.block _ (lt_of_cell hSb.1) (fun e => by have := hbase _ e.symm; omega)
        exact ⟨cell_keep hSb.1 hk8, cell_keep hSb.2 hk8⟩
       have hne8 : (Value.slice (some ⟨gg, 0, none⟩) (k + 1) cap8).ownBlock ≠ some wx.heap.size := fun e => by
        rcases hat8 with h | h
        ·rw [show (Value.slice (some ⟨gg, 0, none⟩) (k + 1) cap8).ownBlock = some gg from rfl] at e
         exact HS.out.2.2.2.1 (h.trans e)
        ·rw [show (Value.slice (some ⟨gg, 0, none⟩) (k + 1) cap8).ownBlock = some gg from rfl] at e
         cases e; omega
       have hh8 : w8.heap[wx.heap.size]? = w2.heap[wx.heap.size]? := (hgrow8.block _ (by omega) (fun e => HS.out.2.2.2.1 e.symm)).trans ((hbb.block _ (by omega)).trans Hn.out.2.1)
       have hz8 := hgrow8.size
       have HB := Lib.hid (And.intro hown8 (And.intro ((Hn.out.2.2.1.trans (hbb.mono (by omega))).trans hB8) (And.intro hne8 hh8))); clear hown8 hgrow8 hat8 hB8 hne8 hh8 hbase
       (refine hK.out _ _ hS8 (fun hHeld => ?_); clear hK K; (try simp only [Act.put, List.setIfInBounds_toArray, List.set_cons_zero, List.set_cons_succ]))
       (refine wpAnyH_ready (rs := [10]) (by kernel_rfl) (by simp) (AllReadyH.cons rfl (fun K hK => ?_) AllReadyH.nil); go_simp)
       (refine hK.out _ _ hS8 (fun hHeld => ?_); clear hK K; (try simp only [Act.put, List.setIfInBounds_toArray, List.set_cons_zero, List.set_cons_succ]))
       refine wpAnyH_done (by kernel_rfl) (NoPanic.normal ?_) _
       go_wp2_with fail
       go_roundw
       case rel => exact ⟨k + 1, by omega, by go_num, by rw [HS.out.1, Hn.out.1], by rw [HS.out.2.1, flS_snoc, Hn.out.1]; exact HB.out.1, HB.out.2.2.1, by omega, HB.out.2.2.2, HB.out.2.1⟩
       case measure => simp [intOf]; omega
      ·have hst : (pstI w).1 = false := by rw [Hps.out.1]; exact pairI_ne h2
       have hbad : psImp t = ([], 6) := by
        unfold psImp
        rw [if_neg ht, HP.out.2.2.2.2.2.1]
        rw [if_pos (ok_false (k := k + 1) (by rw [HS.out.1, hst]) _ (by omega))]
       have Hbad := Lib.hid hbad; clear hbad
       have h2d : ((ps.length : Int) != 2) = true := by simp; omega
       have h2e : ¬ ((ps.length : Int) = 2) := by omega
       clear hst hpo hcw hb3
       go_wp2_with fail
       go_ret2
       exact ⟨_, by rw [Hbad.out]; rfl, by rw [Hbad.out]; exact FS.nil, hB3⟩
   ·obtain rfl : k = ws.length := by omega
    have hkd : decide (ws.length < ws.length) = false := decide_eq_false (Nat.lt_irrefl _)
    obtain ⟨ol, hol⟩ : ∃ ol, outTo pstI ws ws.length = ol := ⟨_, rfl⟩
    have hll : ol.length = ws.length := by rw [← hol]; exact out_len _
    rw [hol] at hown
    have hfs := own2_FSn hown hll
    have htx := StepsText_any _ ol wo (hfs.vs) (by omega)
    have hans : psImp t = if (stxAns ol).2 ≠ 0 ∨ (stxAns ol).1 ≠ t then ([], 6) else (ol, 0) := by
     unfold psImp
     rw [if_neg ht, HP.out.2.2.2.2.2.1, if_neg (by rw [hok]; decide), hol]
    obtain ⟨r, hr⟩ : ∃ r, stxAns ol = r := ⟨_, rfl⟩
    rw [hr] at htx hans
    obtain ⟨s, cd⟩ := r
    have HC := Lib.hid (And.intro hfs (And.intro hB (And.intro htx hans))); clear hfs hB htx hans hok hol hown hsw hll hr hne' hhr
    by_cases hc0 : cd = 0
    ·subst hc0
     by_cases hst : s = t
     ·have hse : ((bs s).toList == (bs t).toList) = true := by rw [str_eq]; exact decide_eq_true hst
      have hans : psImp t = (ol, 0) := by rw [HC.out.2.2.2, if_neg (by simp [hst])]
      have Ha := Lib.hid hans; clear hans hst
      go_wp2_with fail
      refine HC.out.2.2.1.mono ?_
      rintro e' w6 ⟨rfl, hb6⟩
      have Hb6 := Lib.hid hb6; clear hb6
      go_wp2_with fail
      go_ret2
      exact ⟨_, by rw [Ha.out]; rfl, by rw [Ha.out]; exact HC.out.1.below Hb6.out, HC.out.2.1.trans (Hb6.out.mono hzW)⟩
     ·have hse : ((bs s).toList == (bs t).toList) = false := by rw [str_eq]; exact decide_eq_false hst
      have hans : psImp t = ([], 6) := by rw [HC.out.2.2.2, if_pos (.inr hst)]
      have Ha := Lib.hid hans; clear hans hst
      go_wp2_with fail
      refine HC.out.2.2.1.mono ?_
      rintro e' w6 ⟨rfl, hb6⟩
      have Hb6 := Lib.hid hb6; clear hb6
      go_wp2_with fail
      go_ret2
      exact ⟨_, by rw [Ha.out]; rfl, by rw [Ha.out]; exact FS.nil, HC.out.2.1.trans (Hb6.out.mono hzW)⟩
    ·have hans : psImp t = ([], 6) := by rw [HC.out.2.2.2, if_pos (.inl hc0)]
     have Ha := Lib.hid hans; clear hans
     have hcdd : (cd != 0) = true := by simp [hc0]
     clear hc0
     go_wp2_with fail
     refine HC.out.2.2.1.mono ?_
     rintro e' w6 ⟨rfl, hb6⟩
     have Hb6 := Lib.hid hb6; clear hb6
     go_wp2_with fail
     go_ret2
     exact ⟨_, by rw [Ha.out]; rfl, by rw [Ha.out]; exact FS.nil, HC.out.2.1.trans (Hb6.out.mono hzW)⟩
end Go.Proofs.YtbekpololmahoaaGreatDoor
