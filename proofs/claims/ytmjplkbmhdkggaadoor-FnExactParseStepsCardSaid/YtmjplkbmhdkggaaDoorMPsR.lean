/- Steps read out of a text: the reference. No conditions. -/
import Derived.Shelf.LaysM
import Derived.Shelf.Strconv.Itoa4
import Derived.Shelf.Strconv.ParseIntPublic10
import Derived.Shelf.Strconv.ErrVarParseInt
import Derived.Shelf.Strings.Split
import Derived.Test.YtmjplkbmhdkggaaDoorProg
import Derived.Lib.AppendIntMem
import Derived.Lib.AtoiErrMem
import Derived.Lib.ParseIntBTie
import Derived.Test.YtmjplkbmhdkggaaDoorMShelf2
import Derived.Test.YtmjplkbmhdkggaaDoorMLib
namespace Go.Proofs.YtmjplkbmhdkggaaDoor
open Go.RowKit
set_option linter.unusedVariables false
set_option linter.unusedSimpArgs false
/-- A list of strings. -/
def SW (w : World) (v : Value) (ws : List (List UInt8)) : Prop :=
 ∃ a c, v = .slice a ws.length c ∧ ∀ k, k < ws.length → ∃ g off, a = some ⟨g, off, none⟩ ∧ w.cell? ⟨g, off + k, none⟩ = some (.string (bs (getw ws k)))
theorem SW.below {w w' : World} {v : Value} {ws : List (List UInt8)} (h : SW w v ws) (hb : Below w.heap.size w w') : SW w' v ws := by
 obtain ⟨a, c, rfl, h⟩ := h
 refine ⟨a, c, rfl, fun k hk => ?_⟩
 obtain ⟨g, off, ha, hc⟩ := h k hk
 exact ⟨g, off, ha, cell_keep hc (hb.block _ (lt_of_cell hc))⟩
theorem SW.of_own {w : World} {B : Nat} {v : Value} {n : Nat} {ws : List (List UInt8)} (h : w.ownsRow B 9 1 v n (ws.map strV)) (hn : ws.length = n) : SW w v ws := by
 subst hn
 rcases h.2 with ⟨rfl, h0⟩ | ⟨g, cap, cur, rfl, h1, h2, h3, h4, h5, h6⟩
 ·exact ⟨none, 0, by rw [h0], fun k hk => by omega⟩
 ·refine ⟨_, _, rfl, fun k hk => ⟨g, 0, rfl, ?_⟩⟩
  have h7 := (own_cellS (c := cap) h).2.2 k (strV (getw ws k)) (by
   unfold getw
   simp [List.getD_eq_getElem?_getD, List.getElem?_eq_getElem hk])
  exact h7
theorem bs_extract (l : List UInt8) (p q : Nat) : (bs l).extract p q = bs ((l.drop p).take (q - p)) := by
 apply ByteArray.ext
 simp [bs]
theorem bs_get {l : List UInt8} {q : Nat} {x : UInt8} (hx : l[q]? = some x) : ∀ h, (bs l)[q]'h = x := by
 intro h
 obtain ⟨h1, h2⟩ := List.getElem?_eq_some_iff.1 hx
 rw [← h2]; rfl
theorem drop_mid {l : List UInt8} {p q : Nat} {x : UInt8} (hpq : p ≤ q) (hx : l[q]? = some x) : l.drop p = (l.drop p).take (q - p) ++ x :: l.drop (q + 1) := by
 have h1 : l.drop q = x :: l.drop (q + 1) := by
  obtain ⟨h1, h2⟩ := List.getElem?_eq_some_iff.1 hx
  rw [List.drop_eq_getElem_cons h1, h2]
 conv => lhs; rw [← List.take_append_drop (q - p) (l.drop p)]
 rw [List.drop_drop, show p + (q - p) = q by omega, h1]
set_option maxRecDepth 100000 in
set_option maxHeartbeats 4000000 in
theorem l01Split_any (l : List UInt8) (c : UInt8) (W : World) (hl : l.length ≤ 1048576) :
  Calls Tryd.prog 22 #[.string (bs l), .int .u8 (c.toNat : Int)] W fun e' w' => ∃ v', e' = .returned v' ∧ SW w' v' (splitL c l) ∧ Below W.heap.size W w' := by
 have hsz : (bs l).size = l.length := bs_size l
 have hown0 := own_lit0 W W.heap.size 9 1 (Nat.le_refl _)
 have hbl : Below W.heap.size W (W.alloc (.cells #[] 9)) := (Below.refl _ _).alloc (Nat.le_refl _) _
 have HO0 := Lib.hid (And.intro hown0 hbl); clear hown0 hbl
 go_enter Tryd.func22, Tryd.ntmps22
 go_wp2_with fail
 go_loopw [5, 6, 7] (fun ou fr i wr => ∃ (p q : Nat) (ws : List (List UInt8)), fr = .int .i64 p ∧ i = .int .i64 q ∧ q ≤ l.length + 1 ∧ ws.length ≤ q ∧ wr.ownsRow W.heap.size 9 1 ou ws.length (ws.map strV) ∧ Below W.heap.size W wr ∧
   ((q = l.length + 1 ∧ splitL c l = ws) ∨ (q ≤ l.length ∧ p ≤ q ∧ splitL c l = ws ++ splitL c (l.drop p) ∧ ∀ x ∈ (l.drop p).take (q - p), x ≠ c))) (fun _ _ i _ => l.length + 1 - (intOf i).toNat)
 case atStart => exact ⟨0, 0, [], rfl, rfl, Nat.zero_le _, Nat.le_refl _, HO0.out.1, HO0.out.2, .inr ⟨Nat.zero_le _, Nat.le_refl _, by simp, fun x hx => by simp at hx⟩⟩
 case round =>
  obtain ⟨p, q, ws, rfl, rfl, hq, hwl, hown, hB, hst⟩ := hrel
  have hzW := hB.size
  obtain ⟨oa, oc, rfl, ho1, ho2⟩ := own_form hown
  obtain ⟨wo, rfl⟩ : ∃ q, q = wr := ⟨_, rfl⟩
  by_cases hqq : q ≤ l.length
  ·obtain ⟨_, hpq, hsp, hno⟩ := hst.resolve_left (fun h => by omega)
   have hqd : decide (q ≤ l.length) = true := decide_eq_true hqq
   by_cases hqe : q = l.length
   ·have HS := Lib.hid (And.intro hown (And.intro hB (And.intro hsp (And.intro hno hpq)))); clear hown hB hsp hno hst
    subst hqe
    obtain ⟨s0, hs0⟩ : ∃ s0, bs (l.drop p) = s0 := ⟨_, rfl⟩
    have hex : (bs l).extract p l.length = s0 := by rw [bs_extract, ← hs0, List.take_of_length_le (by simp)]
    have hno := HS.out.2.2.2.1
    rw [List.take_of_length_le (by simp)] at hno
    have hlast : splitL c l = ws ++ [l.drop p] := by rw [HS.out.2.2.1, splitL_last hno]
    have Hl := Lib.hid (And.intro hlast hs0); clear hlast hs0 hno
    have hown := HS.out.1
    go_wp2_with ((at_builtin; refine wp_app1 _ rfl _ _ 40 rfl W.heap.size 9 (.string ⟨#[]⟩) 16 Tryd.underlying40 inf_str rfl _ _ _ rfl hown (.string s0) _ rfl rfl (by omega) (by omega) (by omega) ?_; intro v1 w1 hown1 hgrow1 hblk1 hB1); refine Hid.out ?_)
    refine Lib.hid ?_
    have HB := Lib.hid (And.intro hown1 (HS.out.2.1.trans hB1)); clear hown1 hB1 hown
    obtain ⟨na, nc, rfl, _, _⟩ := own_form HB.out.1
    go_wp2_with fail
    go_roundw
    case rel => exact ⟨l.length + 1, l.length + 1, ws ++ [l.drop p], by go_num, by go_num, Nat.le_refl _, by simp; omega, by rw [List.map_append, List.length_append]; have := HB.out.1; rw [← Hl.out.2] at this; exact this, HB.out.2, .inl ⟨rfl, Hl.out.1⟩⟩
    case measure => simp [intOf] <;> omega
   ·have HS := Lib.hid (And.intro hown (And.intro hB (And.intro hsp (And.intro hno hpq)))); clear hown hB hsp hno hst
    have hql : q < l.length := by omega
    obtain ⟨x, hx⟩ : ∃ x, l[q]? = some x := ⟨_, List.getElem?_eq_getElem hql⟩
    have hix := bs_get hx
    have hqe2 : ((q : Int) == (l.length : Int)) = false := beq_eq_false_iff_ne.2 (by omega)
    have hdr := drop_mid HS.out.2.2.2.2 hx
    by_cases hxc : x = c
    ·subst hxc
     obtain ⟨s0, hs0⟩ : ∃ s0, bs ((l.drop p).take (q - p)) = s0 := ⟨_, rfl⟩
     have hex : (bs l).extract p q = s0 := by rw [bs_extract, hs0]
     have hcut : splitL x l = (ws ++ [(l.drop p).take (q - p)]) ++ splitL x (l.drop (q + 1)) := by
      rw [HS.out.2.2.1]
      conv => lhs; rw [hdr]
      rw [splitL_pre HS.out.2.2.2.1]
      simp
     have Hl := Lib.hid (And.intro hcut hs0); clear hcut hs0 hdr hx
     have hown := HS.out.1
     go_wp2_with ((at_builtin; refine wp_app1 _ rfl _ _ 40 rfl W.heap.size 9 (.string ⟨#[]⟩) 16 Tryd.underlying40 inf_str rfl _ _ _ rfl hown (.string s0) _ rfl rfl (by omega) (by omega) (by omega) ?_; intro v1 w1 hown1 hgrow1 hblk1 hB1); refine Hid.out ?_)
     refine Lib.hid ?_
     have HB := Lib.hid (And.intro hown1 (HS.out.2.1.trans hB1)); clear hown1 hB1 hown
     obtain ⟨na, nc, rfl, _, _⟩ := own_form HB.out.1
     go_wp2_with fail
     go_roundw
     case rel => exact ⟨q + 1, q + 1, ws ++ [(l.drop p).take (q - p)], by go_num, by go_num, by omega, by simp; omega, by rw [List.map_append, List.length_append]; have := HB.out.1; rw [← Hl.out.2] at this; exact this, HB.out.2, .inr ⟨by omega, Nat.le_refl _, Hl.out.1, fun y hy => by simp at hy⟩⟩
     case measure => simp [intOf]; omega
    ·have hxc2 : ((x.toNat : Int) == (c.toNat : Int)) = false := beq_eq_false_iff_ne.2 (fun e => hxc (UInt8.toNat_inj.1 (by omega)))
     have hno2 : ∀ y ∈ (l.drop p).take (q + 1 - p), y ≠ c := fun y hy => by
      rw [show q + 1 - p = (q - p) + 1 by have := HS.out.2.2.2.2; omega, List.take_add_one] at hy
      rcases List.mem_append.1 hy with h | h
      ·exact HS.out.2.2.2.1 y h
      ·rw [List.getElem?_drop, show p + (q - p) = q by have := HS.out.2.2.2.2; omega, hx] at h
       simp at h
       subst h
       exact hxc
     have Hn := Lib.hid hno2; clear hno2 hdr hx
     go_wp2_with fail
     go_roundw
     case rel => exact ⟨p, q + 1, ws, rfl, by go_num, by omega, by omega, HS.out.1, HS.out.2.1, .inr ⟨by omega, by have := HS.out.2.2.2.2; omega, HS.out.2.2.1, Hn.out⟩⟩
     case measure => simp [intOf]; omega
  ·obtain ⟨rfl, hfin⟩ := hst.resolve_right (fun h => by omega)
   have hqd : decide (l.length + 1 ≤ l.length) = false := decide_eq_false (by omega)
   have hqd2 : ¬ ((l.length : Int) + 1 ≤ (l.length : Int)) := by omega
   have HF := Lib.hid (And.intro hfin (And.intro (SW.of_own hown rfl) hB)); clear hfin hown hB hst
   go_wp2_with fail
   go_ret
   exact ⟨_, rfl, by rw [HF.out.1]; exact HF.out.2.1, HF.out.2.2⟩
def valTo (l : List UInt8) (k : Nat) : Nat := (l.take k).foldl (fun n b => 10 * n + (b.toNat - 48)) 0
def digTo (l : List UInt8) (k : Nat) : Bool := (l.take k).all fun b => decide (48 ≤ b.toNat) && decide (b.toNat ≤ 57)
theorem take_one {l : List UInt8} {k : Nat} {x : UInt8} (hx : l[k]? = some x) : l.take (k + 1) = l.take k ++ [x] := by rw [List.take_add_one, hx]; rfl
theorem valTo_next {l : List UInt8} {k : Nat} {x : UInt8} (hx : l[k]? = some x) : valTo l (k + 1) = 10 * valTo l k + (x.toNat - 48) := by
 unfold valTo; rw [take_one hx, List.foldl_append]; rfl
theorem digTo_next {l : List UInt8} {k : Nat} {x : UInt8} (hx : l[k]? = some x) : digTo l (k + 1) = (digTo l k && (decide (48 ≤ x.toNat) && decide (x.toNat ≤ 57))) := by
 unfold digTo; rw [take_one hx, List.all_append]; simp
theorem digTo_false {l : List UInt8} {k : Nat} (h : digTo l k = false) : digB l = false := by
 unfold digTo at h
 unfold digB
 rw [← List.take_append_drop k l, List.all_append, h]; rfl
theorem valTo_lt {l : List UInt8} : ∀ {k}, k ≤ l.length → digTo l k = true → valTo l k < 10 ^ k
 | 0, _, _ => by unfold valTo; simp
 | k + 1, hk, hd => by
   obtain ⟨x, hx⟩ : ∃ x, l[k]? = some x := ⟨_, List.getElem?_eq_getElem (by omega)⟩
   rw [digTo_next hx, Bool.and_eq_true, Bool.and_eq_true, decide_eq_true_iff, decide_eq_true_iff] at hd
   have ih := valTo_lt (by omega) hd.1
   rw [valTo_next hx, Nat.pow_succ]
   omega
theorem str_eq (a b : List UInt8) : ((bs a).toList == (bs b).toList) = decide (a = b) := by
 rw [Lib.toList_data, Lib.toList_data, bs_data, bs_data]
 by_cases h : a = b
 ·subst h; simp
 ·simp [h]
set_option maxRecDepth 100000 in
set_option maxHeartbeats 4000000 in
theorem l01Value_any (l : List UInt8) (W : World) (hl : l.length ≤ 1048576) :
  Calls Tryd.prog 23 #[.string (bs l)] W fun e' w' => e' = .returned (.tuple #[.int .i64 (valR l).2, .bool (valR l).1]) ∧ Below W.heap.size W w' := by
 have hsz : (bs l).size = l.length := bs_size l
 by_cases h1 : l.length < 1
 ·have hfin : valR l = (false, 0) := by unfold valR; rw [if_pos h1]
  have Hf := Lib.hid hfin; clear hfin
  have hl0 : l.length = 0 := by omega
  go_enter Tryd.func23, Tryd.ntmps23
  go_wp2_with fail
  go_ret2
  exact ⟨by rw [Hf.out]; rfl, Below.refl _ _⟩
 ·by_cases h13 : 13 < l.length
  ·have hfin : valR l = (false, 0) := by unfold valR; rw [if_neg h1, if_pos h13]
   have Hf := Lib.hid hfin; clear hfin
   go_enter Tryd.func23, Tryd.ntmps23
   go_wp2_with fail
   go_ret2
   exact ⟨by rw [Hf.out]; rfl, Below.refl _ _⟩
  ·go_enter Tryd.func23, Tryd.ntmps23
   go_wp2_with fail
   go_loopw [4, 5] (fun nv i wr => ∃ k : Nat, k ≤ l.length ∧ i = .int .i64 k ∧ nv = .int .i64 (valTo l k : Nat) ∧ digTo l k = true ∧ wr = W) (fun _ i _ => l.length - (intOf i).toNat)
   case atStart => exact ⟨0, Nat.zero_le _, rfl, rfl, rfl, rfl⟩
   case round =>
    obtain ⟨k, hk, rfl, rfl, hdg, rfl⟩ := hrel
    have hvl := valTo_lt hk hdg
    have hp13 : 10 ^ k ≤ 10 ^ 13 := Nat.pow_le_pow_right (by decide) (by omega)
    have hp : (10 : Nat) ^ 13 = 10000000000000 := by decide
    by_cases hkk : k < l.length
    ·obtain ⟨x, hx⟩ : ∃ x, l[k]? = some x := ⟨_, List.getElem?_eq_getElem hkk⟩
     have hix := bs_get hx
     have hnext := valTo_next hx
     have hdn := digTo_next hx
     rw [hdg, Bool.true_and] at hdn
     obtain ⟨V, hV⟩ : ∃ V, valTo l k = V := ⟨_, rfl⟩
     rw [hV] at hnext hvl
     obtain ⟨y, hy⟩ : ∃ y : Nat, x.toNat = y := ⟨_, rfl⟩
     rw [hy] at hnext hdn
     have hV9 : V < 10000000000000 := by omega
     have HS := Lib.hid (And.intro hnext (And.intro hdn (And.intro hV (And.intro hx hdg)))); clear hnext hdn hx hdg hvl hp13 hp
     rw [hV]
     clear hV
     by_cases hy1 : y < 48
     ·have hbad : valR l = (false, 0) := by
       have : digB l = false := digTo_false (k := k + 1) (by rw [HS.out.2.1]; simp; omega)
       unfold valR
       rw [if_neg h1, if_neg h13, if_pos this]
      have Hb := Lib.hid hbad; clear hbad
      have hyd : decide ((y : Int) < 48) = true := decide_eq_true (by omega)
      go_wp2_with fail
      go_ret2
      exact ⟨by rw [Hb.out]; rfl, Below.refl _ _⟩
     ·have hyd : decide ((y : Int) < 48) = false := decide_eq_false (by omega)
      by_cases hy2 : 57 < y
      ·have hbad : valR l = (false, 0) := by
        have : digB l = false := digTo_false (k := k + 1) (by rw [HS.out.2.1]; simp; omega)
        unfold valR
        rw [if_neg h1, if_neg h13, if_pos this]
       have Hb := Lib.hid hbad; clear hbad
       have hyd2 : decide ((57 : Int) < (y : Int)) = true := decide_eq_true (by omega)
       go_wp2_with fail
       go_ret2
       exact ⟨by rw [Hb.out]; rfl, Below.refl _ _⟩
      ·have hyd2 : decide ((57 : Int) < (y : Int)) = false := decide_eq_false (by omega)
       obtain ⟨z, hz⟩ : ∃ z : Nat, y = z + 48 := ⟨y - 48, by omega⟩
       have hw1 : IntKind.u8.wrap ((y : Int) - 48) = (z : Int) := by
        rw [show (y : Int) - 48 = (z : Int) by omega]
        have : z = 0 ∨ z = 1 ∨ z = 2 ∨ z = 3 ∨ z = 4 ∨ z = 5 ∨ z = 6 ∨ z = 7 ∨ z = 8 ∨ z = 9 := by omega
        rcases this with rfl | rfl | rfl | rfl | rfl | rfl | rfl | rfl | rfl | rfl <;> decide
       have hw2 : IntKind.i64.wrap (10 * (V : Int)) = 10 * (V : Int) := IntWalk.i64_in _ (by omega)
       have hw3 : IntKind.i64.wrap (10 * (V : Int) + (z : Int)) = 10 * (V : Int) + (z : Int) := IntWalk.i64_in _ (by omega)
       have hw4 : IntKind.i64.wrap (z : Int) = (z : Int) := IntWalk.i64_in _ (by omega)
       have hnx : valTo l (k + 1) = 10 * V + z := by rw [HS.out.1, hz]; omega
       have hdx : digTo l (k + 1) = true := by rw [HS.out.2.1]; simp; omega
       have Hx := Lib.hid (And.intro hnx hdx); clear hnx hdx
       clear hz
       go_wp2_with fail
       go_roundw
       case rel => exact ⟨k + 1, by omega, by go_num, by rw [Hx.out.1]; go_num, Hx.out.2, trivial⟩
       case measure => simp [intOf]; omega
    ·obtain rfl : k = l.length := by omega
     have hkd : decide (l.length < l.length) = false := decide_eq_false (Nat.lt_irrefl _)
     have hvn : valTo l l.length = valN l := by unfold valTo valN; rw [List.take_length]
     have hdb : digB l = true := by have := hdg; unfold digTo at this; rwa [List.take_length] at this
     obtain ⟨V, hV⟩ : ∃ V, valTo l l.length = V := ⟨_, rfl⟩
     rw [hV] at hvl hvn
     have hfin : valR l = (((bs (decW (V : Int))).toList == (bs l).toList), (V : Int)) := by
      unfold valR
      rw [if_neg h1, if_neg h13, if_neg (by rw [hdb]; decide), ← hvn, str_eq]
      unfold decW
      rw [Int.toNat_natCast]
     have hcall := fun w : World => dec_all V (V : Int) (by omega) (by omega) (by omega) w
     obtain ⟨s0, hs0⟩ : ∃ s0, bs (decW (V : Int)) = s0 := ⟨_, rfl⟩
     simp only [hs0] at hcall hfin
     have HF := Lib.hid (And.intro hfin hcall); clear hfin hcall hs0 hdg hvl hvn hdb hp13 hp
     rw [hV]
     clear hV
     go_wp2_with fail
     refine (HF.out.2 _).mono ?_
     rintro e' w2 ⟨rfl, hb2⟩
     go_wp2_with fail
     go_ret2
     exact ⟨by rw [HF.out.1]; rfl, hb2⟩
theorem bs_toList (l : List UInt8) : (bs l).toList = l := by rw [Lib.toList_data, bs_data]
def flS (l : List (Int × Int)) : List Value := l.flatMap fun x => [.int .i64 x.1, .int .i64 x.2]
theorem flS_snoc (l : List (Int × Int)) (x : Int × Int) : flS (l ++ [x]) = flS l ++ [.int .i64 x.1, .int .i64 x.2] := by simp [flS]
theorem flS_get {l : List (Int × Int)} : ∀ {k : Nat}, k < l.length → (flS l)[k * 2]? = some (.int .i64 (gets l k).1) ∧ (flS l)[k * 2 + 1]? = some (.int .i64 (gets l k).2) := by
 induction l with
 | nil => intro k h; simp at h
 | cons x l ih =>
   intro k h
   cases k with
   | zero => exact ⟨rfl, rfl⟩
   | succ k =>
     have h1 := ih (k := k) (by simpa using h)
     have e : flS (x :: l) = .int .i64 x.1 :: .int .i64 x.2 :: flS l := rfl
     rw [e, show (k + 1) * 2 = k * 2 + 1 + 1 from by omega]
     exact h1
theorem own2_FS {w : World} {B : Nat} {v : Value} {l : List (Int × Int)} (h : w.ownsRow B 37 2 v l.length (flS l)) : FS B w v l := by
 rcases h.2 with ⟨rfl, h0⟩ | ⟨g, cap, cur, rfl, h1, h2, h3, h4, h5, h6⟩
 ·have : l = [] := List.length_eq_zero_iff.1 h0
  subst this; exact FS.nil
 ·refine ⟨g, ⟨_, _, rfl, h3, h4, fun _ => ⟨0, cur, _, rfl, h2, fun k hk => ?_⟩⟩, fun _ => h1⟩
  have h7 := flS_get hk
  rw [← h6, List.getElem?_take, List.getElem?_take, if_pos (by omega), if_pos (by omega), Array.getElem?_toList, Array.getElem?_toList] at h7
  rw [Nat.zero_add]; exact h7
theorem own2_FSn {w : World} {B n : Nat} {v : Value} {l : List (Int × Int)} (h : w.ownsRow B 37 2 v n (flS l)) (hn : l.length = n) : FS B w v l := by subst hn; exact own2_FS h
theorem own2_form {w : World} {B z : Nat} {e : TypeId} {v : Value} {n : Nat} {xs : List Value} (h : w.ownsRow B e z v n xs) : ∃ a c, v = .slice a n c ∧ n ≤ c ∧ c ≤ maxLen := by
 rcases h.2 with ⟨rfl, h0⟩ | ⟨g, cap, cur, rfl, h1, h2, h3, h4, _⟩
 ·subst h0; exact ⟨_, _, rfl, Nat.le_refl _, Nat.zero_le _⟩
 ·exact ⟨_, _, rfl, h3, h4⟩
theorem own2_keep {w w' : World} {B z : Nat} {e : TypeId} {v : Value} {n : Nat} {xs : List Value} (h : w.ownsRow B e z v n xs) (hb : Below w.heap.size w w') : w'.ownsRow B e z v n xs := by
 refine ⟨h.1, ?_⟩
 rcases h.2 with h0 | ⟨g, cap, cur, rfl, h1, h2, h3⟩
 ·exact .inl h0
 ·exact .inr ⟨g, cap, cur, rfl, h1, by rw [hb.block _ (lt_of_heap h2)]; exact h2, h3⟩
theorem SW.cell {w : World} {a : Option Addr} {n c k : Nat} {ws : List (List UInt8)} (h : SW w (.slice a n c) ws) (hk : k < ws.length) : ∃ g off, a = some ⟨g, off, none⟩ ∧ n = ws.length ∧ w.cell? ⟨g, off + k, none⟩ = some (.string (bs (getw ws k))) := by
 obtain ⟨a', c', e, h⟩ := h
 cases e
 obtain ⟨g, off, h1, h2⟩ := h k hk
 exact ⟨g, off, h1, rfl, h2⟩
theorem SW.form {w : World} {v : Value} {ws : List (List UInt8)} (h : SW w v ws) : ∃ a c, v = .slice a ws.length c := by
 obtain ⟨a, c, rfl, _⟩ := h; exact ⟨a, c, rfl⟩
theorem split_len (c : UInt8) : ∀ l, (splitL c l).length ≤ l.length + 1
 | [] => by simp [splitL]
 | x :: r => by
   have ih := split_len c r
   rw [splitL_cons]
   split
   ·simp; omega
   ·split
    ·simp
    ·rename_i h
     rw [h] at ih
     simp at ih ⊢; omega
theorem split_word (c : UInt8) : ∀ l k, (getw (splitL c l) k).length ≤ l.length
 | [], k => by cases k <;> simp [splitL, getw]
 | x :: r, k => by
   have ih := split_word c r
   rw [splitL_cons]
   split
   ·cases k with
    | zero => simp [getw]
    | succ k => have := ih k; show (getw (splitL c r) k).length ≤ _; simp; omega
   ·split
    ·cases k <;> simp [getw]
    ·rename_i w ws h
     rw [h] at ih
     cases k with
     | zero => have := ih 0; show (x :: w).length ≤ _; simp; exact this
     | succ k => have := ih (k + 1); show (getw ws k).length ≤ _; simp; exact Nat.le_succ_of_le this
set_option maxRecDepth 100000 in
set_option maxHeartbeats 8000000 in
theorem ParseStepsR_any (t : List UInt8) (W : World) (hl : t.length ≤ 1048576) :
  Calls Tryd.prog 10 #[.string (bs t)] W fun e' w' => ∃ v', e' = .returned (.tuple #[v', .int .i64 (psAns t).2]) ∧ FS W.heap.size w' v' (psAns t).1 ∧ Below W.heap.size W w' := by
 by_cases ht : t = []
 ·subst ht
  have hans : psAns [] = ([], 0) := rfl
  have H := Lib.hid hans; clear hans
  have he : bs [] = (ByteArray.mk #[]) := rfl
  rw [he]
  clear he
  go_enter Tryd.func10, Tryd.ntmps10
  go_wp2_with fail
  go_ret2
  exact ⟨_, by rw [H.out]; rfl, by rw [H.out]; exact own2_FS (own_lit0 W W.heap.size 37 2 (Nat.le_refl _)), (Below.refl _ _).alloc (Nat.le_refl _) _⟩
 ·have hne : (bs t).toList.isEmpty = false := by
   rw [bs_toList]
   cases t with
   | nil => exact absurd rfl ht
   | cons x r => rfl
  obtain ⟨ws, hws⟩ : ∃ ws, splitL 32 t = ws := ⟨_, rfl⟩
  have hsp : ∀ W : World, Calls Tryd.prog 22 #[.string (bs t), .int .u8 32] W fun e' w' => ∃ v', e' = .returned v' ∧ SW w' v' (splitL 32 t) ∧ Below W.heap.size W w' := fun W => l01Split_any t 32 W hl
  have hwl := split_len 32 t
  have hww := split_word 32 t
  simp only [hws] at hsp
  rw [hws] at hwl hww
  have HW := Lib.hid (And.intro hws (And.intro hsp hww)); clear hws hsp hww
  go_enter Tryd.func10, Tryd.ntmps10
  go_wp2_with fail
  refine (HW.out.2.1 _).mono ?_
  rintro e' w2 ⟨wv, rfl, hwv, hb2⟩
  obtain ⟨wa, wc, rfl⟩ := hwv.form
  have hown0 := own_lit0 w2 w2.heap.size 37 2 (Nat.le_refl _)
  have hbl : Below w2.heap.size w2 (w2.alloc (.cells #[] 37)) := (Below.refl _ _).alloc (Nat.le_refl _) _
  have H0 := Lib.hid (And.intro hown0 (And.intro hbl (And.intro hwv hb2))); clear hown0 hbl hb2 hwv
  have hz2 := H0.out.2.2.2.size
  go_wp2_with fail
  go_loopw [5, 6] (fun ou i wr => ∃ k : Nat, k ≤ ws.length ∧ i = .int .i64 k ∧ okTo pstR ws k = true ∧ wr.ownsRow w2.heap.size 37 2 ou k (flS (outTo pstR ws k)) ∧ Below w2.heap.size w2 wr) (fun _ i _ => ws.length - (intOf i).toNat)
  case atStart => exact ⟨0, Nat.zero_le _, rfl, rfl, H0.out.1, H0.out.2.1⟩
  case round =>
   obtain ⟨k, hk, rfl, hok, hown, hB⟩ := hrel
   have hzW := hB.size
   obtain ⟨oa, oc, rfl, _, _⟩ := own2_form hown
   obtain ⟨wo, rfl⟩ : ∃ q, q = wr := ⟨_, rfl⟩
   have hwv := H0.out.2.2.1.below hB
   by_cases hkk : k < ws.length
   ·obtain ⟨g, off, rfl, _, hcw⟩ := hwv.cell hkk
    have hkn : ¬ ws.length ≤ k := by omega
    have hkd : decide (k < ws.length) = true := decide_eq_true hkk
    obtain ⟨w, hw⟩ : ∃ w, getw ws k = w := ⟨_, rfl⟩
    have hoks : okTo pstR ws (k + 1) = (pstR w).1 := by rw [← hw]; unfold okTo; rw [hok]; rfl
    have houts : outTo pstR ws (k + 1) = outTo pstR ws k ++ [(pstR w).2] := by rw [← hw]; rfl
    have hlw : w.length ≤ 1048576 := by rw [← hw]; have := HW.out.2.2 k; omega
    rw [hw] at hcw
    have HS := Lib.hid (And.intro hoks (And.intro houts (And.intro hown hB))); clear hoks houts hw hown hwv hB hok
    by_cases hplus : w = [43]
    ·have hpl : ((bs w).toList == [43]) = true := by rw [bs_toList, hplus]; rfl
     have hst : pstR w = (true, (-1, 0)) := by unfold pstR; rw [if_pos hplus]
     have Hst := Lib.hid hst; clear hst
     have hown5 := HS.out.2.2.1
     have hB5 := HS.out.2.2.2
     clear hplus
     have hz5 := hB5.size
     have hzA : (wo.alloc (.cells #[.int .i64 (-1), .int .i64 (0)] 37)).heap.size = wo.heap.size + 1 := by simp
     go_wp2_with (at_builtin; refine wp_app rfl _ _ 26 rfl w2.heap.size 37 (.agg #[.int .i64 0, .int .i64 0]) 2 16 Tryd.underlying26 inf_step rfl (by omega) _ _ _ rfl (hown5.alloc _) ⟨_, 0, none⟩ 1 1 [.int .i64 (-1), .int .i64 (0)] rfl rfl (World.news_of_block (heap_alloc_new _ _)) (by simp [Value.oneCell']) (by unfold maxLen; omega) (by omega) (by omega) ?_; intro v8 w8 hown8 hgrow8 hblk8; refine Hid.out ?_)
     refine Lib.hid ?_
     have hB8 : Below w2.heap.size w2 w8 := (hB5.alloc hz5 _).grown hgrow8 (by omega) (fun g hg => (hown5.lt g hg).1)
     have HB := Lib.hid (And.intro hown8 hB8); clear hown8 hgrow8 hblk8 hB8 hown5 hB5 hzA
     obtain ⟨na, nc, rfl, _, _⟩ := own2_form HB.out.1
     go_wp2_with fail
     go_roundw
     case rel => exact ⟨k + 1, by omega, by go_num, by rw [HS.out.1, Hst.out], by rw [HS.out.2.1, flS_snoc, Hst.out]; exact HB.out.1, HB.out.2⟩
     case measure => simp [intOf]; omega
    ·have hpl : ((bs w).toList == [43]) = false := by rw [bs_toList]; simp [hplus]
     have hspw : ∀ W : World, Calls Tryd.prog 22 #[.string (bs w), .int .u8 47] W fun e' w' => ∃ v', e' = .returned v' ∧ SW w' v' (splitL 47 w) ∧ Below W.heap.size W w' := fun W => l01Split_any w 47 W hlw
     have hpw := split_word 47 w
     obtain ⟨ps, hps⟩ : ∃ ps, splitL 47 w = ps := ⟨_, rfl⟩
     simp only [hps] at hspw
     rw [hps] at hpw
     have hunf : pstR w = pairR ps := by rw [pstR_pair hplus, hps]
     have HP := Lib.hid (And.intro hspw (And.intro hpw hunf)); clear hspw hpw hunf hps hplus
     by_cases h2 : ps.length = 2
     ·obtain ⟨p0, p1, rfl⟩ := two_of h2
      have hl0 : p0.length ≤ 1048576 := by have := HP.out.2.1 0; have : p0.length ≤ w.length := this; omega
      have hl1 : p1.length ≤ 1048576 := by have := HP.out.2.1 1; have : p1.length ≤ w.length := this; omega
      obtain ⟨r0, hr0⟩ : ∃ r, valR p0 = r := ⟨_, rfl⟩
      obtain ⟨r1, hr1⟩ : ∃ r, valR p1 = r := ⟨_, rfl⟩
      have hC0 := fun w : World => l01Value_any p0 w hl0
      have hC1 := fun w : World => l01Value_any p1 w hl1
      simp only [hr0] at hC0
      simp only [hr1] at hC1
      have hst : pstR w = (r0.1 && r1.1, (r0.2, r1.2)) := by rw [HP.out.2.2, ← hr0, ← hr1]; rfl
      have Hst := Lib.hid (And.intro hst (And.intro hC0 hC1)); clear hst hC0 hC1 hr0 hr1 hl0 hl1
      go_wp2_with fail
      refine (HP.out.1 _).mono ?_
      rintro e' w3 ⟨pv, rfl, hpv, hb3⟩
      obtain ⟨pa, pc, rfl⟩ := hpv.form
      obtain ⟨pg, po, rfl, _, hc0⟩ := hpv.cell (k := 0) (by simp)
      obtain ⟨pg', po', e, _, hc1⟩ := hpv.cell (k := 1) (by simp)
      cases e
      have hc0 : w3.cell? ⟨pg, po, none⟩ = some (.string (bs p0)) := hc0
      have hc1 : w3.cell? ⟨pg, po + 1, none⟩ = some (.string (bs p1)) := hc1
      have Hb3 := Lib.hid hb3; clear hb3 hpv hcw
      go_wp2_with fail
      refine (Hst.out.2.1 _).mono ?_
      rintro e' w4 ⟨rfl, hb4⟩
      have hc1' := cell_keep hc1 (hb4.block _ (lt_of_cell hc1))
      have Hb4 := Lib.hid hb4; clear hb4 hc0 hc1
      go_wp2_with fail
      refine (Hst.out.2.2 _).mono ?_
      rintro e' w5 ⟨rfl, hb5⟩
      have hb05 : Below wo.heap.size wo w5 := Hb3.out.trans ((Hb4.out.trans (hb5.mono Hb4.out.size)).mono Hb3.out.size)
      have hown5 := own2_keep HS.out.2.2.1 hb05
      have hB5 : Below w2.heap.size w2 w5 := HS.out.2.2.2.trans (hb05.mono hzW)
      clear hc1' hb5
      cases h0 : r0.1
      ·have hst2 : (pstR w).1 = false := by rw [Hst.out.1, h0]; rfl
       have H0f := Lib.hid (And.intro h0 hst2); clear h0 hst2
       have hbad : psAns t = ([], 6) := by
        unfold psAns
        rw [if_neg ht, HW.out.1]
        rw [if_pos (ok_false (k := k + 1) (by rw [HS.out.1, H0f.out.2]) _ (by omega))]
       have Hbad := Lib.hid hbad; clear hbad
       go_wp2_with fail
       go_ret2
       exact ⟨_, by rw [Hbad.out]; rfl, by rw [Hbad.out]; exact FS.nil, H0.out.2.2.2.trans (hB5.mono hz2)⟩
      ·cases h1 : r1.1
       ·have hst2 : (pstR w).1 = false := by rw [Hst.out.1, h0, h1]; rfl
        have H0f := Lib.hid (And.intro h0 (And.intro h1 hst2)); clear h0 h1 hst2
        have hbad : psAns t = ([], 6) := by
         unfold psAns
         rw [if_neg ht, HW.out.1]
         rw [if_pos (ok_false (k := k + 1) (by rw [HS.out.1, H0f.out.2.2]) _ (by omega))]
        have Hbad := Lib.hid hbad; clear hbad
        go_wp2_with fail
        go_ret2
        exact ⟨_, by rw [Hbad.out]; rfl, by rw [Hbad.out]; exact FS.nil, H0.out.2.2.2.trans (hB5.mono hz2)⟩
       ·have hst2 : pstR w = (true, (r0.2, r1.2)) := by rw [Hst.out.1, h0, h1]; rfl
        have H0f := Lib.hid (And.intro h0 (And.intro h1 hst2)); clear h0 h1 hst2
        have hz5 := hB5.size
        have hzA : (w5.alloc (.cells #[.int .i64 (r0.2), .int .i64 (r1.2)] 37)).heap.size = w5.heap.size + 1 := by simp
        go_wp2_with (at_builtin; refine wp_app rfl _ _ 26 rfl w2.heap.size 37 (.agg #[.int .i64 0, .int .i64 0]) 2 16 Tryd.underlying26 inf_step rfl (by omega) _ _ _ rfl (hown5.alloc _) ⟨_, 0, none⟩ 1 1 [.int .i64 (r0.2), .int .i64 (r1.2)] rfl rfl (World.news_of_block (heap_alloc_new _ _)) (by simp [Value.oneCell']) (by unfold maxLen; omega) (by omega) (by omega) ?_; intro v8 w8 hown8 hgrow8 hblk8; refine Hid.out ?_)
        refine Lib.hid ?_
        have hB8 : Below w2.heap.size w2 w8 := (hB5.alloc hz5 _).grown hgrow8 (by omega) (fun g hg => (hown5.lt g hg).1)
        have HB := Lib.hid (And.intro hown8 hB8); clear hown8 hgrow8 hblk8 hB8 hown5 hB5 hzA
        obtain ⟨na, nc, rfl, _, _⟩ := own2_form HB.out.1
        go_wp2_with fail
        go_roundw
        case rel => exact ⟨k + 1, by omega, by go_num, by rw [HS.out.1, H0f.out.2.2], by rw [HS.out.2.1, flS_snoc, H0f.out.2.2]; exact HB.out.1, HB.out.2⟩
        case measure => simp [intOf]; omega
     ·have hst : (pstR w).1 = false := by rw [HP.out.2.2]; exact pairR_ne h2
      have Hst := Lib.hid hst; clear hst
      have hbad : psAns t = ([], 6) := by
       unfold psAns
       rw [if_neg ht, HW.out.1]
       rw [if_pos (ok_false (k := k + 1) (by rw [HS.out.1, Hst.out]) _ (by omega))]
      have Hbad := Lib.hid hbad; clear hbad
      have h2d : ((ps.length : Int) != 2) = true := by simp; omega
      have h2e : ¬ ((ps.length : Int) = 2) := by omega
      go_wp2_with fail
      refine (HP.out.1 _).mono ?_
      rintro e' w3 ⟨pv, rfl, hpv, hb3⟩
      obtain ⟨pa, pc, rfl⟩ := hpv.form
      have hB3 : Below w2.heap.size w2 w3 := HS.out.2.2.2.trans (hb3.mono hzW)
      clear hpv hcw
      go_wp2_with fail
      go_ret2
      exact ⟨_, by rw [Hbad.out]; rfl, by rw [Hbad.out]; exact FS.nil, H0.out.2.2.2.trans (hB3.mono hz2)⟩
   ·obtain rfl : k = ws.length := by omega
    have hkd : decide (ws.length < ws.length) = false := decide_eq_false (Nat.lt_irrefl _)
    obtain ⟨ol, hol⟩ : ∃ ol, outTo pstR ws ws.length = ol := ⟨_, rfl⟩
    have hll : ol.length = ws.length := by rw [← hol]; exact out_len _
    rw [hol] at hown
    have hfs := own2_FSn hown hll
    have hcode := l19Code_any _ ol wo (hfs.vs)
    obtain ⟨cd, hcd⟩ : ∃ cd, codeS ol = cd := ⟨_, rfl⟩
    rw [hcd] at hcode
    have HC := Lib.hid (And.intro hfs (And.intro hB (And.intro hcode (And.intro hok (And.intro hol hcd))))); clear hfs hB hcode hok hol hcd hown hwv hll
    by_cases hc0 : cd = 0
    ·have hans : psAns t = (ol, 0) := by
      unfold psAns
      rw [if_neg ht, HW.out.1, if_neg (by rw [HC.out.2.2.2.1]; decide), HC.out.2.2.2.2.1, HC.out.2.2.2.2.2, if_neg (by simp [hc0])]
     have Ha := Lib.hid hans; clear hans
     subst hc0
     go_wp2_with fail
     refine HC.out.2.2.1.mono ?_
     rintro e' w6 ⟨rfl, hb6⟩
     have Hb6 := Lib.hid hb6; clear hb6
     go_wp2_with fail
     go_ret2
     exact ⟨_, by rw [Ha.out]; rfl, by rw [Ha.out]; exact (HC.out.1.below Hb6.out).mono hz2, H0.out.2.2.2.trans ((HC.out.2.1.trans (Hb6.out.mono hzW)).mono hz2)⟩
    ·have hans : psAns t = ([], 6) := by
      unfold psAns
      rw [if_neg ht, HW.out.1, if_neg (by rw [HC.out.2.2.2.1]; decide), HC.out.2.2.2.2.1, HC.out.2.2.2.2.2, if_pos hc0]
     have Ha := Lib.hid hans; clear hans
     have hcdd : (cd != 0) = true := by simp [hc0]
     clear hc0
     go_wp2_with fail
     refine HC.out.2.2.1.mono ?_
     rintro e' w6 ⟨rfl, hb6⟩
     have Hb6 := Lib.hid hb6; clear hb6
     go_wp2_with fail
     go_ret2
     exact ⟨_, by rw [Ha.out]; rfl, by rw [Ha.out]; exact FS.nil, H0.out.2.2.2.trans ((HC.out.2.1.trans (Hb6.out.mono hzW)).mono hz2)⟩
end Go.Proofs.YtmjplkbmhdkggaaDoor
namespace Go.Proofs
open Go.Shelf
def Tryd.laysM173_ren : Go.Shelf.Ren := ⟨fun | 173 => 29 | 246 => 35 | 283 => 42 | 284 => 43 | 285 => 44 | 286 => 45 | 129 => 55 | 317 => 54 | 318 => 56 | 319 => 57 | 320 => 58 | 337 => 69 | 338 => 70 | n => n, fun | 2 => 2 | 3 => 3 | 9 => 9 | 4 => 4 | 171 => 71 | 0 => 0 | 53 => 72 | 37 => 55 | 5 => 5 | 173 => 75 | 212 => 87 | 51 => 88 | 20 => 20 | 213 => 89 | 46 => 91 | 232 => 111 | 233 => 112 | n => n, fun | 17 => 0 | 18 => 6 | 19 => 7 | n => n⟩
theorem Tryd.laysM173 : Go.Proofs.LaysM.n173 Tryd.prog Tryd.laysM173_ren := {
 mixed := by kernel_rfl
 f129 := Tryd.func55.trans (congrArg some (by kernel_rfl))
 f173 := Tryd.func29.trans (congrArg some (by kernel_rfl))
 f246 := Tryd.func35.trans (congrArg some (by kernel_rfl))
 f283 := Tryd.func42.trans (congrArg some (by kernel_rfl))
 f284 := Tryd.func43.trans (congrArg some (by kernel_rfl))
 f285 := Tryd.func44.trans (congrArg some (by kernel_rfl))
 f286 := Tryd.func45.trans (congrArg some (by kernel_rfl))
 f317 := Tryd.func54.trans (congrArg some (by kernel_rfl))
 f318 := Tryd.func56.trans (congrArg some (by kernel_rfl))
 f319 := Tryd.func57.trans (congrArg some (by kernel_rfl))
 f320 := Tryd.func58.trans (congrArg some (by kernel_rfl))
 f337 := Tryd.func69.trans (congrArg some (by kernel_rfl))
 f338 := Tryd.func70.trans (congrArg some (by kernel_rfl))
 t0 := Tryd.underlying0
 a0 := Tryd.isAgg0
 z0 := Tryd.sizeOf0
 v0 := Tryd.zeroValue0
 t2 := Tryd.underlying2
 a2 := Tryd.isAgg2
 z2 := Tryd.sizeOf2
 v2 := Tryd.zeroValue2
 t3 := Tryd.underlying3
 a3 := Tryd.isAgg3
 z3 := Tryd.sizeOf3
 v3 := Tryd.zeroValue3
 t4 := Tryd.underlying4
 a4 := Tryd.isAgg4
 z4 := Tryd.sizeOf4
 v4 := Tryd.zeroValue4
 t5 := Tryd.underlying5
 a5 := Tryd.isAgg5
 z5 := Tryd.sizeOf5
 v5 := Tryd.zeroValue5
 t9 := Tryd.underlying9
 a9 := Tryd.isAgg9
 z9 := Tryd.sizeOf9
 v9 := Tryd.zeroValue9
 t20 := Tryd.underlying20
 a20 := Tryd.isAgg20
 z20 := Tryd.sizeOf20
 v20 := Tryd.zeroValue20
 t37 := Tryd.underlying55
 a37 := Tryd.isAgg55
 z37 := Tryd.sizeOf55
 v37 := Tryd.zeroValue55
 t46 := Tryd.underlying91
 a46 := Tryd.isAgg91
 z46 := Tryd.sizeOf91
 v46 := Tryd.zeroValue91
 t51 := Tryd.underlying88
 a51 := Tryd.isAgg88
 z51 := Tryd.sizeOf88
 v51 := Tryd.zeroValue88
 t53 := Tryd.underlying72
 a53 := Tryd.isAgg72
 z53 := Tryd.sizeOf72
 v53 := Tryd.zeroValue72
 t171 := Tryd.underlying71
 a171 := Tryd.isAgg71
 z171 := Tryd.sizeOf71
 v171 := Tryd.zeroValue71
 t173 := Tryd.underlying75
 a173 := Tryd.isAgg75
 z173 := Tryd.sizeOf75
 v173 := Tryd.zeroValue75
 t212 := Tryd.underlying87
 a212 := Tryd.isAgg87
 z212 := Tryd.sizeOf87
 v212 := Tryd.zeroValue87
 t213 := Tryd.underlying89
 a213 := Tryd.isAgg89
 z213 := Tryd.sizeOf89
 t232 := Tryd.underlying111
 a232 := Tryd.isAgg111
 z232 := Tryd.sizeOf111
 v232 := Tryd.zeroValue111
 t233 := Tryd.underlying112
 a233 := Tryd.isAgg112
 z233 := Tryd.sizeOf112
 v233 := Tryd.zeroValue112
 g17 := by kernel_rfl
 g18 := by kernel_rfl
 g19 := by kernel_rfl
 i0 := by kernel_rfl
 i2 := by kernel_rfl
 i3 := by kernel_rfl
 i4 := by kernel_rfl
 i5 := by kernel_rfl
 i9 := by kernel_rfl
 i20 := by kernel_rfl
 i37 := by kernel_rfl
 i46 := by kernel_rfl
 i51 := by kernel_rfl
 i53 := by kernel_rfl
 i171 := by kernel_rfl
 i173 := by kernel_rfl
 i212 := by kernel_rfl
 i232 := by kernel_rfl
 i233 := by kernel_rfl
 m17 := by kernel_rfl
 m18 := by kernel_rfl
 m19 := by kernel_rfl }
open Go.RowKit Go.Sort Go.Lib in
/-- strconv.FormatInt: "FormatInt returns the string representation of i in the given base": AT BASE 10: i's decimal numeral, for every int64. (LAID: no walk: one application.) -/
theorem Tryd.strconv_FormatInt_10 (n : Int) (h0 : -9223372036854775808 ≤ n) (h1 : n ≤ 9223372036854775807) (w : World) (htab : Lib.TabIs Tryd.prog w "internal/strconv.uint64pow10" .u64 Lib.pow10Tab) :
  Calls Tryd.prog 29 #[.int .i64 n, .int .i64 10] w fun e w' => e = .returned (.string ⟨(Lib.itoa n).toArray⟩) ∧ ∃ k os, w' = grow (w.drewN k) os := Any.strconv_FormatInt_10 Tryd.laysM173 n h0 h1 w htab
def Tryd.laysC174_ren : Go.Shelf.Ren := ⟨fun | 174 => 41 | 247 => 52 | 245 => 53 | 287 => 64 | 279 => 65 | 280 => 66 | 281 => 67 | 282 => 68 | 321 => 73 | 322 => 74 | 316 => 75 | 171 => 77 | 205 => 76 | 243 => 78 | 246 => 35 | 283 => 42 | 284 => 43 | 285 => 44 | 286 => 45 | 129 => 55 | 317 => 54 | 318 => 56 | 319 => 57 | 320 => 58 | 337 => 69 | 338 => 70 | n => n, fun | 9 => 9 | 3 => 3 | 2 => 2 | 75 => 60 | 85 => 68 | 4 => 4 | 167 => 93 | 5 => 5 | 53 => 72 | 175 => 94 | 46 => 91 | 168 => 96 | 37 => 55 | 0 => 0 | 210 => 109 | 21 => 21 | 127 => 65 | 145 => 115 | 143 => 113 | 171 => 71 | 173 => 75 | 212 => 87 | 51 => 88 | 20 => 20 | 213 => 89 | 232 => 111 | 233 => 112 | 80 => 63 | n => n, fun | 15 => 4 | 16 => 5 | 17 => 0 | 18 => 6 | 19 => 7 | n => n⟩
theorem Tryd.laysC174 : Go.Proofs.LaysC.n174 Tryd.prog Tryd.laysC174_ren := {
 mixed := by kernel_rfl
 f129 := Tryd.func55.trans (congrArg some (by kernel_rfl))
 f171 := Tryd.func77.trans (congrArg some (by kernel_rfl))
 f174 := Tryd.func41.trans (congrArg some (by kernel_rfl))
 f205 := Tryd.func76.trans (congrArg some (by kernel_rfl))
 f243 := Tryd.func78.trans (congrArg some (by kernel_rfl))
 f245 := Tryd.func53.trans (congrArg some (by kernel_rfl))
 f246 := Tryd.func35.trans (congrArg some (by kernel_rfl))
 f247 := Tryd.func52.trans (congrArg some (by kernel_rfl))
 f279 := Tryd.func65.trans (congrArg some (by kernel_rfl))
 f280 := Tryd.func66.trans (congrArg some (by kernel_rfl))
 f281 := Tryd.func67.trans (congrArg some (by kernel_rfl))
 f282 := Tryd.func68.trans (congrArg some (by kernel_rfl))
 f283 := Tryd.func42.trans (congrArg some (by kernel_rfl))
 f284 := Tryd.func43.trans (congrArg some (by kernel_rfl))
 f285 := Tryd.func44.trans (congrArg some (by kernel_rfl))
 f286 := Tryd.func45.trans (congrArg some (by kernel_rfl))
 f287 := Tryd.func64.trans (congrArg some (by kernel_rfl))
 f316 := Tryd.func75.trans (congrArg some (by kernel_rfl))
 f317 := Tryd.func54.trans (congrArg some (by kernel_rfl))
 f318 := Tryd.func56.trans (congrArg some (by kernel_rfl))
 f319 := Tryd.func57.trans (congrArg some (by kernel_rfl))
 f320 := Tryd.func58.trans (congrArg some (by kernel_rfl))
 f321 := Tryd.func73.trans (congrArg some (by kernel_rfl))
 f322 := Tryd.func74.trans (congrArg some (by kernel_rfl))
 f337 := Tryd.func69.trans (congrArg some (by kernel_rfl))
 f338 := Tryd.func70.trans (congrArg some (by kernel_rfl))
 t0 := Tryd.underlying0
 a0 := Tryd.isAgg0
 z0 := Tryd.sizeOf0
 v0 := Tryd.zeroValue0
 t2 := Tryd.underlying2
 a2 := Tryd.isAgg2
 z2 := Tryd.sizeOf2
 v2 := Tryd.zeroValue2
 t3 := Tryd.underlying3
 a3 := Tryd.isAgg3
 z3 := Tryd.sizeOf3
 v3 := Tryd.zeroValue3
 t4 := Tryd.underlying4
 a4 := Tryd.isAgg4
 z4 := Tryd.sizeOf4
 v4 := Tryd.zeroValue4
 t5 := Tryd.underlying5
 a5 := Tryd.isAgg5
 z5 := Tryd.sizeOf5
 v5 := Tryd.zeroValue5
 t9 := Tryd.underlying9
 a9 := Tryd.isAgg9
 z9 := Tryd.sizeOf9
 v9 := Tryd.zeroValue9
 t20 := Tryd.underlying20
 a20 := Tryd.isAgg20
 z20 := Tryd.sizeOf20
 v20 := Tryd.zeroValue20
 t21 := Tryd.underlying21
 a21 := Tryd.isAgg21
 z21 := Tryd.sizeOf21
 v21 := Tryd.zeroValue21
 t37 := Tryd.underlying55
 a37 := Tryd.isAgg55
 z37 := Tryd.sizeOf55
 v37 := Tryd.zeroValue55
 t46 := Tryd.underlying91
 a46 := Tryd.isAgg91
 z46 := Tryd.sizeOf91
 v46 := Tryd.zeroValue91
 t51 := Tryd.underlying88
 a51 := Tryd.isAgg88
 z51 := Tryd.sizeOf88
 v51 := Tryd.zeroValue88
 t53 := Tryd.underlying72
 a53 := Tryd.isAgg72
 z53 := Tryd.sizeOf72
 v53 := Tryd.zeroValue72
 t75 := Tryd.underlying60
 a75 := Tryd.isAgg60
 z75 := Tryd.sizeOf60
 v75 := Tryd.zeroValue60
 t85 := Tryd.underlying68
 a85 := Tryd.isAgg68
 z85 := Tryd.sizeOf68
 v85 := Tryd.zeroValue68
 t127 := Tryd.underlying65
 a127 := Tryd.isAgg65
 z127 := Tryd.sizeOf65
 v127 := Tryd.zeroValue65
 t143 := Tryd.underlying113
 a143 := Tryd.isAgg113
 z143 := Tryd.sizeOf113
 v143 := Tryd.zeroValue113
 t145 := Tryd.underlying115
 a145 := Tryd.isAgg115
 z145 := Tryd.sizeOf115
 v145 := Tryd.zeroValue115
 t167 := Tryd.underlying93
 a167 := Tryd.isAgg93
 z167 := Tryd.sizeOf93
 v167 := Tryd.zeroValue93
 t168 := Tryd.underlying96
 a168 := Tryd.isAgg96
 z168 := Tryd.sizeOf96
 v168 := Tryd.zeroValue96
 t171 := Tryd.underlying71
 a171 := Tryd.isAgg71
 z171 := Tryd.sizeOf71
 v171 := Tryd.zeroValue71
 t173 := Tryd.underlying75
 a173 := Tryd.isAgg75
 z173 := Tryd.sizeOf75
 v173 := Tryd.zeroValue75
 t175 := Tryd.underlying94
 a175 := Tryd.isAgg94
 z175 := Tryd.sizeOf94
 v175 := Tryd.zeroValue94
 t210 := Tryd.underlying109
 a210 := Tryd.isAgg109
 z210 := Tryd.sizeOf109
 v210 := Tryd.zeroValue109
 t212 := Tryd.underlying87
 a212 := Tryd.isAgg87
 z212 := Tryd.sizeOf87
 v212 := Tryd.zeroValue87
 t213 := Tryd.underlying89
 a213 := Tryd.isAgg89
 z213 := Tryd.sizeOf89
 t232 := Tryd.underlying111
 a232 := Tryd.isAgg111
 z232 := Tryd.sizeOf111
 v232 := Tryd.zeroValue111
 t233 := Tryd.underlying112
 a233 := Tryd.isAgg112
 z233 := Tryd.sizeOf112
 v233 := Tryd.zeroValue112
 g15 := by kernel_rfl
 g16 := by kernel_rfl
 g17 := by kernel_rfl
 g18 := by kernel_rfl
 g19 := by kernel_rfl
 t80 := Tryd.underlying63
 a80 := Tryd.isAgg63
 z80 := Tryd.sizeOf63
 v80 := Tryd.zeroValue63
 i0 := by kernel_rfl
 i2 := by kernel_rfl
 i3 := by kernel_rfl
 i4 := by kernel_rfl
 i5 := by kernel_rfl
 i9 := by kernel_rfl
 i20 := by kernel_rfl
 i21 := by kernel_rfl
 i37 := by kernel_rfl
 i46 := by kernel_rfl
 i51 := by kernel_rfl
 i53 := by kernel_rfl
 i75 := by kernel_rfl
 i80 := by kernel_rfl
 i85 := by kernel_rfl
 i127 := by kernel_rfl
 i143 := by kernel_rfl
 i145 := by kernel_rfl
 i167 := by kernel_rfl
 i168 := by kernel_rfl
 i171 := by kernel_rfl
 i173 := by kernel_rfl
 i175 := by kernel_rfl
 i210 := by kernel_rfl
 i212 := by kernel_rfl
 i232 := by kernel_rfl
 i233 := by kernel_rfl
 m15 := by kernel_rfl
 m16 := by kernel_rfl
 m17 := by kernel_rfl
 m18 := by kernel_rfl
 m19 := by kernel_rfl
 c0 := by kernel_rfl
 c2 := by kernel_rfl
 c3 := by kernel_rfl
 c4 := by kernel_rfl
 c5 := by kernel_rfl
 c9 := by kernel_rfl
 c20 := by kernel_rfl
 c21 := by kernel_rfl
 c37 := by kernel_rfl
 c46 := by kernel_rfl
 c51 := by kernel_rfl
 c53 := by kernel_rfl
 c75 := by kernel_rfl
 c80 := by kernel_rfl
 c85 := by kernel_rfl
 c127 := by kernel_rfl
 c143 := by kernel_rfl
 c145 := by kernel_rfl
 c167 := by kernel_rfl
 c168 := by kernel_rfl
 c171 := by kernel_rfl
 c173 := by kernel_rfl
 c175 := by kernel_rfl
 c210 := by kernel_rfl
 c212 := by kernel_rfl
 c213 := by kernel_rfl
 c232 := by kernel_rfl
 c233 := by kernel_rfl }
open Go.RowKit in
open Go.RowKit in
open Go.RowKit in
open Go.RowKit in
/-- strconv.ParseInt(s, 10, 64), AT EVERY STRING THAT SPELLS AN int64 ('Lib.parseIntB 64 s.data.toList = .ok v'): v, AND NO ERROR. (LAID: no walk: one application.) -/
theorem Tryd.strconv_ParseInt_10_at64_ok (s : ByteArray) (hmax : s.size ≤ 9223372036854775806) (v : Int) (h : Lib.parseIntB 64 s.data.toList = .ok v) (w : World) :
  Calls Tryd.prog 41 #[.string s, .int .i64 10, .int .i64 64] w fun e w' => e = .returned (.tuple #[.int .i64 v, .nilIface]) ∧ (w' = w ∨ ∃ t, w' = Lib.bytesWorld w 5 t) := Any.strconv_ParseInt_10_at64_ok Tryd.laysC174 s hmax v h w
open Go.RowKit in
open Go.RowKit in
open Go.RowKit in
open Go.RowKit in
open Go.RowKit in
open Go.RowKit in
open Go.RowKit in
open Go.RowKit in
open Go.RowKit in
open Go.RowKit in
open Go.RowKit in
open Go.RowKit in
open Go.RowKit in
open Go.RowKit in
theorem Tryd.strconv_ParseInt_10_at64_syntax_var (s : ByteArray) (hlim : s.size ≤ 281474976710656) (h : Lib.parseIntB 64 s.data.toList = .«syntax») (tp : TypeId) (p : Value) (w : World) (hvar : w.var? Tryd.prog "strconv.ErrSyntax" = some #[.iface tp p]) :
  Calls Tryd.prog 41 #[.string s, .int .i64 10, .int .i64 64] w fun e w' => ∃ N, e = .returned (.tuple #[.int .i64 (0), .iface 96 (.pointer (some ⟨N, 0, none⟩))]) ∧ w.heap.size ≤ N ∧ w'.heap[N]? = some (.cells #[.string ⟨#[80, 97, 114, 115, 101, 73, 110, 116]⟩, .string s, .iface tp p] 109 (0, 0)) ∧ Below w.heap.size w w' := Any.strconv_ParseInt_10_at64_syntax_var Tryd.laysC174 s hlim h tp p w hvar
open Go.RowKit in
theorem Tryd.strconv_ParseInt_10_at64_range_var (s : ByteArray) (hlim : s.size ≤ 281474976710656) (h : Lib.parseIntB 64 s.data.toList = .range) (tp : TypeId) (p : Value) (w : World) (hvar : w.var? Tryd.prog "strconv.ErrRange" = some #[.iface tp p]) :
  Calls Tryd.prog 41 #[.string s, .int .i64 10, .int .i64 64] w fun e w' => ∃ N, e = .returned (.tuple #[.int .i64 (Lib.intSat 64 s.data.toList), .iface 96 (.pointer (some ⟨N, 0, none⟩))]) ∧ w.heap.size ≤ N ∧ w'.heap[N]? = some (.cells #[.string ⟨#[80, 97, 114, 115, 101, 73, 110, 116]⟩, .string s, .iface tp p] 109 (0, 0)) ∧ Below w.heap.size w w' := Any.strconv_ParseInt_10_at64_range_var Tryd.laysC174 s hlim h tp p w hvar
open Go.RowKit in
open Go.RowKit in
open Go.RowKit in
open Go.RowKit in
open Go.RowKit in
open Go.RowKit in
def Tryd.lays146_ren : Go.Shelf.Ren := ⟨fun | 146 => 24 | 221 => 33 | 268 => 38 | 138 => 39 | 143 => 40 | 195 => 48 | 197 => 49 | 218 => 50 | 219 => 51 | 260 => 59 | 217 => 60 | 225 => 61 | 224 => 62 | 267 => 63 | 266 => 71 | 314 => 72 | n => n, fun | 9 => 9 | 31 => 40 | 3 => 3 | 4 => 4 | 0 => 0 | 105 => 81 | 21 => 21 | 5 => 5 | 46 => 91 | 119 => 100 | 139 => 103 | 138 => 102 | 146 => 104 | 51 => 88 | n => n, fun | 1 => 1 | 3 => 2 | 4 => 3 | n => n⟩
theorem Tryd.lays146 : Go.Proofs.Lays.n146 Tryd.prog Tryd.lays146_ren := {
 mixed := by kernel_rfl
 f138 := Tryd.func39.trans (congrArg some (by kernel_rfl))
 f143 := Tryd.func40.trans (congrArg some (by kernel_rfl))
 f146 := Tryd.func24.trans (congrArg some (by kernel_rfl))
 f195 := Tryd.func48.trans (congrArg some (by kernel_rfl))
 f197 := Tryd.func49.trans (congrArg some (by kernel_rfl))
 f217 := Tryd.func60.trans (congrArg some (by kernel_rfl))
 f218 := Tryd.func50.trans (congrArg some (by kernel_rfl))
 f219 := Tryd.func51.trans (congrArg some (by kernel_rfl))
 f221 := Tryd.func33.trans (congrArg some (by kernel_rfl))
 f224 := Tryd.func62.trans (congrArg some (by kernel_rfl))
 f225 := Tryd.func61.trans (congrArg some (by kernel_rfl))
 f260 := Tryd.func59.trans (congrArg some (by kernel_rfl))
 f266 := Tryd.func71.trans (congrArg some (by kernel_rfl))
 f267 := Tryd.func63.trans (congrArg some (by kernel_rfl))
 f268 := Tryd.func38.trans (congrArg some (by kernel_rfl))
 f314 := Tryd.func72.trans (congrArg some (by kernel_rfl))
 t0 := Tryd.underlying0
 a0 := Tryd.isAgg0
 z0 := Tryd.sizeOf0
 v0 := Tryd.zeroValue0
 t3 := Tryd.underlying3
 a3 := Tryd.isAgg3
 z3 := Tryd.sizeOf3
 v3 := Tryd.zeroValue3
 t4 := Tryd.underlying4
 a4 := Tryd.isAgg4
 z4 := Tryd.sizeOf4
 v4 := Tryd.zeroValue4
 t5 := Tryd.underlying5
 a5 := Tryd.isAgg5
 z5 := Tryd.sizeOf5
 v5 := Tryd.zeroValue5
 t9 := Tryd.underlying9
 a9 := Tryd.isAgg9
 z9 := Tryd.sizeOf9
 v9 := Tryd.zeroValue9
 t21 := Tryd.underlying21
 a21 := Tryd.isAgg21
 z21 := Tryd.sizeOf21
 v21 := Tryd.zeroValue21
 t31 := Tryd.underlying40
 a31 := Tryd.isAgg40
 z31 := Tryd.sizeOf40
 v31 := Tryd.zeroValue40
 t46 := Tryd.underlying91
 a46 := Tryd.isAgg91
 z46 := Tryd.sizeOf91
 v46 := Tryd.zeroValue91
 t51 := Tryd.underlying88
 a51 := Tryd.isAgg88
 z51 := Tryd.sizeOf88
 v51 := Tryd.zeroValue88
 t105 := Tryd.underlying81
 a105 := Tryd.isAgg81
 z105 := Tryd.sizeOf81
 v105 := Tryd.zeroValue81
 t119 := Tryd.underlying100
 a119 := Tryd.isAgg100
 z119 := Tryd.sizeOf100
 t138 := Tryd.underlying102
 a138 := Tryd.isAgg102
 z138 := Tryd.sizeOf102
 v138 := Tryd.zeroValue102
 t139 := Tryd.underlying103
 a139 := Tryd.isAgg103
 z139 := Tryd.sizeOf103
 v139 := Tryd.zeroValue103
 t146 := Tryd.underlying104
 a146 := Tryd.isAgg104
 z146 := Tryd.sizeOf104
 v146 := Tryd.zeroValue104
 g1 := by kernel_rfl
 g3 := by kernel_rfl
 g4 := by kernel_rfl }
open Go.RowKit Go.Lib in
/-- strings.Split. (LAID: no walk: one application.) -/
theorem Tryd.strings_Split (s sep : ByteArray) (m : Int) (w : World) (hs : s.size < 4294967281) (hm : w.cell? ⟨1, 0, none⟩ = some (.int .i64 m)) (h1 : 1 ≤ sep.size) :
  Calls Tryd.prog 24 #[.string s, .string sep] w fun e w' =>
   e = .returned (.slice (some ⟨w.heap.size, 0, none⟩) (Lib.countB s sep + 1) (Lib.countB s sep + 1)) ∧ w' = w.alloc (.cells ((Lib.splitB sep 0 (Lib.countB s sep) s).map Value.string).toArray 9) := Any.strings_Split Tryd.lays146 (by kernel_rfl) s sep m w hs hm h1
end Go.Proofs
namespace Go.Proofs.YtmjplkbmhdkggaaDoor
open Go.RowKit
set_option linter.unusedVariables false
set_option linter.unusedSimpArgs false
/-- What the library's variables hold. -/
structure Env (w : World) : Prop where
 tab : Lib.TabIs Tryd.prog w "internal/strconv.uint64pow10" .u64 Lib.pow10Tab
 es : ∃ tp p, w.var? Tryd.prog "strconv.ErrSyntax" = some #[.iface tp p]
 er : ∃ tp p, w.var? Tryd.prog "strconv.ErrRange" = some #[.iface tp p]
 ml : ∃ m, w.var? Tryd.prog "internal/bytealg.MaxLen" = some #[.int .i64 m]
theorem var_below {P : Program} {n : String} {w w' : World} {cs : Array Value} (h : w.var? P n = some cs) (hb : Below w.heap.size w w') : w'.var? P n = some cs := by
 unfold World.var? at h ⊢
 cases hg : P.globalNamed n with
 | none => rw [hg] at h; cases h
 | some g =>
   rw [hg] at h
   simp only [Option.bind_some] at h ⊢
   have hlt : g < w.heap.size := by
    rcases Nat.lt_or_ge g w.heap.size with h' | h'
    ·exact h'
    ·rw [Array.getElem?_eq_none h'] at h; cases h
   rw [hb.block g hlt]
   exact h
theorem Env.below {w w' : World} (h : Env w) (hb : Below w.heap.size w w') : Env w' :=
 ⟨var_below h.tab hb, h.es.imp fun _ => Exists.imp fun _ h => var_below h hb, h.er.imp fun _ => Exists.imp fun _ h => var_below h hb, h.ml.imp fun _ h => var_below h hb⟩
theorem text_all (n : Int) (h0 : -9223372036854775808 ≤ n) (h1 : n ≤ 9223372036854775807) (w : World) (hE : Env w) :
  Calls Tryd.prog 19 #[.int .i64 n] w fun e w' => e = .returned (.string (bs (Lib.itoa n))) ∧ Below w.heap.size w w' := by
 have hc := Go.Proofs.Tryd.strconv_FormatInt_10 n h0 h1 w hE.tab
 have HC := Lib.hid hc; clear hc
 go_enter Tryd.func19, Tryd.ntmps19
 go_wp2_with fail
 refine HC.out.mono ?_
 rintro e' w2 ⟨rfl, k, os, hw⟩
 have hb : Below w.heap.size w w2 := by rw [hw]; exact Lib.below_grow w.heap.size w (Nat.le_refl _) k os
 clear hw
 go_wp2_with fail
 go_ret
 exact ⟨rfl, hb⟩
set_option maxRecDepth 100000 in
set_option maxHeartbeats 1000000 in
theorem number_any (l : List UInt8) (W : World) (hl : l.length ≤ 1048576) (hE : Env W) :
  Calls Tryd.prog 34 #[.string (bs l)] W fun e' w' => ∃ n, e' = .returned (.tuple #[.int .i64 n, .bool (numI l).1]) ∧ ((numI l).1 = true → n = (numI l).2) ∧ Below W.heap.size W w' := by
 have hd : (bs l).data.toList = l := bs_data l
 have hz : (bs l).size = l.length := bs_size l
 cases hp : Lib.parseIntB 64 l with
 | ok v =>
   have hb := Lib.parseIntB_bounds hp
   have hc := Go.Proofs.Tryd.strconv_ParseInt_10_at64_ok (bs l) (by omega) v (by rw [hd]; exact hp) W
   have hn : numI l = (decide (Lib.itoa v = l), v) := by unfold numI; rw [hp]
   rw [← str_eq] at hn
   have H := Lib.hid (And.intro hc (And.intro hn (And.intro hb hE))); clear hc hn hb hE hp hd
   go_enter Tryd.func34, Tryd.ntmps34
   go_wp2_with fail
   refine H.out.1.mono ?_
   rintro e' w2 ⟨rfl, hw⟩
   have hb2 : Below W.heap.size W w2 := by
    rcases hw with rfl | ⟨t, rfl⟩
    ·exact Below.refl _ _
    ·exact Lib.bytesWorld_below _ _ _
   clear hw
   go_wp2_with fail
   refine (text_all v (by have := H.out.2.2.1.1; omega) (by have := H.out.2.2.1.2; omega) _ (H.out.2.2.2.below hb2)).mono ?_
   rintro e' w3 ⟨rfl, hb3⟩
   go_wp2_with fail
   go_ret2
   exact ⟨v, by rw [H.out.2.1]; rfl, fun _ => by rw [H.out.2.1], hb2.trans (hb3.mono hb2.size)⟩
 | «syntax» =>
   obtain ⟨tp, p, hv⟩ := hE.es
   have hc := Go.Proofs.Tryd.strconv_ParseInt_10_at64_syntax_var (bs l) (by omega) (by rw [hd]; exact hp) tp p W hv
   have hn : numI l = (false, 0) := by unfold numI; rw [hp]
   have H := Lib.hid (And.intro hc hn); clear hc hn hp hd hv hE
   go_enter Tryd.func34, Tryd.ntmps34
   go_wp2_with fail
   refine H.out.1.mono ?_
   rintro e' w2 ⟨N, rfl, _, _, hb2⟩
   go_wp2_with fail
   go_ret2
   exact ⟨_, by rw [H.out.2]; rfl, (fun h => absurd h (by rw [H.out.2]; decide)), hb2⟩
 | range =>
   obtain ⟨tp, p, hv⟩ := hE.er
   have hc := Go.Proofs.Tryd.strconv_ParseInt_10_at64_range_var (bs l) (by omega) (by rw [hd]; exact hp) tp p W hv
   have hn : numI l = (false, 0) := by unfold numI; rw [hp]
   have H := Lib.hid (And.intro hc hn); clear hc hn hp hd hv hE
   go_enter Tryd.func34, Tryd.ntmps34
   go_wp2_with fail
   refine H.out.1.mono ?_
   rintro e' w2 ⟨N, rfl, _, _, hb2⟩
   go_wp2_with fail
   go_ret2
   exact ⟨_, by rw [H.out.2]; rfl, (fun h => absurd h (by rw [H.out.2]; decide)), hb2⟩
theorem SW.keep {w w' : World} {g off n c : Nat} {ws : List (List UInt8)} (h : SW w (.slice (some ⟨g, off, none⟩) n c) ws) (hk : w'.heap[g]? = w.heap[g]?) : SW w' (.slice (some ⟨g, off, none⟩) n c) ws := by
 obtain ⟨a, c', e, h⟩ := h
 cases e
 refine ⟨_, _, rfl, fun k hkl => ?_⟩
 obtain ⟨g', off', ha, hc⟩ := h k hkl
 cases ha
 exact ⟨_, _, rfl, cell_keep hc hk⟩
theorem split_any (l : List UInt8) (c : UInt8) (W : World) (hl : l.length ≤ 1048576) (hE : Env W) :
  Calls Tryd.prog 24 #[.string (bs l), .string (bs [c])] W fun e' w' => ∃ cp, e' = .returned (.slice (some ⟨W.heap.size, 0, none⟩) (splitL c l).length cp) ∧ SW w' (.slice (some ⟨W.heap.size, 0, none⟩) (splitL c l).length cp) (splitL c l) ∧ W.heap.size < w'.heap.size ∧ Below W.heap.size W w' := by
 obtain ⟨m, hm⟩ := hE.ml
 have hc := Go.Proofs.Tryd.strings_Split (bs l) (bs [c]) m W (by rw [bs_size]; omega) (by refine (World.var?_cell ?_ hm 0).trans rfl; kernel_rfl) (by rw [bs_size]; exact Nat.le_refl _)
 have hall := Lib.splitB_all (bs [c]) (by rw [bs_size]; exact Nat.le_refl _) 0 (Lib.countB (bs l) (bs [c])) (bs l) rfl
 have hdat := Lib.splitB_data (bs [c]) 0 (Lib.countB (bs l) (bs [c])) (bs l)
 rw [bs_data, bs_data] at hdat
 have hcnt : Lib.countB (bs l) (bs [c]) = Lib.count l [c] := by unfold Lib.countB; rw [bs_data, bs_data]
 have hsp : Lib.splitK [c] 0 (Lib.countB (bs l) (bs [c])) l = splitL c l := by rw [hcnt]; exact split_lib c l
 rw [hsp] at hdat
 obtain ⟨B, hB⟩ : ∃ B, Lib.splitB (bs [c]) 0 (Lib.countB (bs l) (bs [c])) (bs l) = B := ⟨_, rfl⟩
 rw [hB] at hall hdat hc
 have hlen : (splitL c l).length = B.length := by rw [← hdat, List.length_map]
 rw [← hall, ← hlen] at hc
 refine hc.mono ?_
 rintro e w' ⟨rfl, hw⟩
 have hb : Below W.heap.size W w' := by rw [hw]; exact (Below.refl _ _).alloc (Nat.le_refl _) _
 have hh : w'.heap[W.heap.size]? = some (.cells (B.map Value.string).toArray 9 (0, 0)) := by rw [hw]; exact heap_alloc_self _ _
 refine ⟨_, rfl, ⟨_, _, rfl, fun k hk => ⟨_, _, rfl, ?_⟩⟩, lt_of_heap hh, hb⟩
 rw [cell_of_block hh, Nat.zero_add]
 have hkB : k < B.length := by omega
 have hgw : getw (splitL c l) k = (B[k]).data.toList := by
  unfold getw
  rw [← hdat]
  simp [List.getD_eq_getElem?_getD, List.getElem?_eq_getElem hkB]
 have hbb : bs (getw (splitL c l) k) = B[k] := by
  rw [hgw]
  rfl
 rw [hbb]
 simp [List.getElem?_eq_getElem hkB]
def okN (ps : List (List UInt8)) : Nat → Bool
 | 0 => true
 | k + 1 => okN ps k && (numI (getw ps k)).1
def valsTo (ps : List (List UInt8)) : Nat → List Int
 | 0 => []
 | k + 1 => valsTo ps k ++ [(numI (getw ps k)).2]
theorem okN_false {ps : List (List UInt8)} {k : Nat} (h : okN ps k = false) : ∀ n, k ≤ n → okN ps n = false := by
 intro n hn
 induction n with
 | zero => obtain rfl : k = 0 := by omega
           exact h
 | succ n ih =>
   by_cases e : k = n + 1
   ·subst e; exact h
   ·unfold okN; rw [ih (by omega)]; rfl
set_option maxRecDepth 100000 in
set_option maxHeartbeats 4000000 in
theorem parted_any (w : List UInt8) (W : World) (hl : w.length ≤ 1048576) (hE : Env W) :
  Calls Tryd.prog 25 #[.string (bs w), .string (bs [47])] W fun e' w' => ∃ v', e' = .returned (.tuple #[v', .bool (okN (splitL 47 w) (splitL 47 w).length)]) ∧ (okN (splitL 47 w) (splitL 47 w).length = true → w'.ownsRow W.heap.size 2 1 v' (splitL 47 w).length ((valsTo (splitL 47 w) (splitL 47 w).length).map (Value.int .i64))) ∧ (∃ a n c, v' = .slice a n c) ∧ Below W.heap.size W w' := by
 have hplen := split_len 47 w
 have hpw := split_word 47 w
 have hown0 := own_lit0 W W.heap.size 2 1 (Nat.le_refl _)
 have hbl : Below W.heap.size W (W.alloc (.cells #[] 2)) := (Below.refl _ _).alloc (Nat.le_refl _) _
 obtain ⟨wx, hwx0⟩ : ∃ wx, wx = W.alloc (.cells #[] 2) := ⟨_, rfl⟩
 have hzx : W.heap.size < wx.heap.size := by rw [hwx0]; simp
 rw [← hwx0] at hown0 hbl
 have hsp := split_any w 47 wx hl (hE.below hbl)
 obtain ⟨ps, hps⟩ : ∃ ps, splitL 47 w = ps := ⟨_, rfl⟩
 rw [hps] at hplen hpw hsp ⊢
 have HP := Lib.hid (And.intro hpw (And.intro hsp (And.intro hown0 (And.intro hbl (And.intro hwx0 hE))))); clear hps hpw hsp hown0 hbl hE
 go_enter Tryd.func25, Tryd.ntmps25
 go_wp2_with fail
 rw [← HP.out.2.2.2.2.1]
 clear hwx0
 refine HP.out.2.1.mono ?_
 rintro e' w2 ⟨cp, rfl, hsw, hgl, hb2⟩
 have hB2 : Below W.heap.size W w2 := HP.out.2.2.2.1.trans (hb2.mono (by omega))
 have H2 := Lib.hid (And.intro hsw (And.intro hB2 (own_chg HP.out.2.2.1 (Chg.of_below (F := fun _ => False) hb2) (fun _ _ h => h)))); clear hsw hb2 hB2
 go_wp2_with fail
 go_loopw [6, 16] (fun ou i wr => ∃ k : Nat, k ≤ ps.length ∧ i = .int .i64 k ∧ okN ps k = true ∧ wr.ownsRow W.heap.size 2 1 ou k ((valsTo ps k).map (Value.int .i64)) ∧ ou.ownBlock ≠ some wx.heap.size ∧ wx.heap.size < wr.heap.size ∧ wr.heap[wx.heap.size]? = w2.heap[wx.heap.size]? ∧ Below W.heap.size W wr) (fun _ i _ => ps.length - (intOf i).toNat)
 case atStart => exact ⟨0, Nat.zero_le _, rfl, rfl, H2.out.2.2, (fun e => by simp [Value.ownBlock] at e; omega), hgl, rfl, H2.out.2.1⟩
 case round =>
  obtain ⟨k, hk, rfl, hok, hown, hne, hgr, hhr, hB⟩ := hrel
  have hzW := hB.size
  obtain ⟨oa, oc, rfl, _, _⟩ := own_form hown
  obtain ⟨wo, rfl⟩ : ∃ q, q = wr := ⟨_, rfl⟩
  have hsw := H2.out.1.keep hhr
  by_cases hkk : k < ps.length
  ·obtain ⟨g, off, e, _, hcw⟩ := hsw.cell hkk
   cases e
   rw [Nat.zero_add] at hcw
   have hkn : ¬ ps.length ≤ k := by omega
   have hkd : decide (k < ps.length) = true := decide_eq_true hkk
   have hlw : (getw ps k).length ≤ 1048576 := by have := HP.out.1 k; omega
   have hnum := number_any (getw ps k) wo hlw (HP.out.2.2.2.2.2.below hB)
   have hoks : okN ps (k + 1) = (numI (getw ps k)).1 := by unfold okN; rw [hok]; rfl
   have hvs : (valsTo ps (k + 1)).map (Value.int .i64) = (valsTo ps k).map (Value.int .i64) ++ [.int .i64 (numI (getw ps k)).2] := by simp [valsTo]
   obtain ⟨p, hp⟩ : ∃ p, getw ps k = p := ⟨_, rfl⟩
   rw [hp] at hcw hnum hoks hvs
   obtain ⟨r, hr⟩ : ∃ r, numI p = r := ⟨_, rfl⟩
   rw [hr] at hnum hoks hvs
   have HS := Lib.hid (And.intro hnum (And.intro hoks (And.intro hvs (And.intro hown (And.intro hne (And.intro hhr hB)))))); clear hnum hoks hvs hown hne hhr hB hok hsw hp hr hlw
   go_wp2_with fail
   refine HS.out.1.mono ?_
   rintro e' w3 ⟨n, rfl, hn, hb3⟩
   have hB3 : Below W.heap.size W w3 := HS.out.2.2.2.2.2.2.trans (hb3.mono hzW)
   have hz3 := hb3.size
   cases hr1 : r.1
   ·have hbad : okN ps ps.length = false := okN_false (k := k + 1) (by rw [HS.out.2.1, hr1]) _ (by omega)
    have Hb := Lib.hid (And.intro hbad (And.intro hr1 (And.intro hn hB3))); clear hbad hr1 hn hB3 hb3 hcw
    go_wp2_with fail
    go_ret2
    exact ⟨_, by rw [Hb.out.1]; rfl, (fun h => absurd h (by rw [Hb.out.1]; decide)), ⟨_, _, _, rfl⟩, Hb.out.2.2.2⟩
   ·have hn2 := hn hr1
    have hown3 := own_chg HS.out.2.2.2.1 (Chg.of_below (F := fun _ => False) hb3) (fun _ _ h => h)
    have hh3 : w3.heap[wx.heap.size]? = w2.heap[wx.heap.size]? := (hb3.block _ hgr).trans HS.out.2.2.2.2.2.1
    have Hn := Lib.hid (And.intro hr1 (And.intro hn2 (And.intro hh3 hB3))); clear hr1 hn2 hn hh3 hB3 hb3 hcw
    go_wp2_with ((at_builtin; refine wp_app1 _ rfl _ _ 50 rfl W.heap.size 2 (.int .i64 0) 8 Tryd.underlying50 inf_int rfl _ _ _ rfl hown3 (.int .i64 n) _ rfl rfl (by omega) (by omega) (by omega) ?_; intro v1 w1 hown1 hgrow1 hblk1 hB1); refine Hid.out ?_)
    refine Lib.hid ?_
    have hne8 : v1.ownBlock ≠ some wx.heap.size := fun e => by
     rcases hblk1 with h | ⟨g, h, hg⟩
     ·exact HS.out.2.2.2.2.1 (h.symm.trans e)
     ·rw [e] at h; cases h; omega
    have hh8 : w1.heap[wx.heap.size]? = w2.heap[wx.heap.size]? := (hgrow1.block _ (by omega) (fun e => HS.out.2.2.2.2.1 e.symm)).trans Hn.out.2.2.1
    have hz8 := hB1.size
    have HB := Lib.hid (And.intro hown1 (And.intro (Hn.out.2.2.2.trans hB1) (And.intro hne8 hh8))); clear hown1 hB1 hown3 hgrow1 hblk1 hne8 hh8
    obtain ⟨na, nc, rfl, _, _⟩ := own_form HB.out.1
    go_wp2_with fail
    go_roundw
    case rel => exact ⟨k + 1, by omega, by go_num, by rw [HS.out.2.1]; exact Hn.out.1, by rw [HS.out.2.2.1, ← Hn.out.2.1]; exact HB.out.1, HB.out.2.2.1, by omega, HB.out.2.2.2, HB.out.2.1⟩
    case measure => simp [intOf]; omega
  ·obtain rfl : k = ps.length := by omega
   have hkd : decide (ps.length < ps.length) = false := decide_eq_false (Nat.lt_irrefl _)
   have HF := Lib.hid (And.intro hok (And.intro hown hB)); clear hok hown hB hsw hne hhr
   go_wp2_with fail
   go_ret2
   exact ⟨_, by rw [HF.out.1]; rfl, fun _ => HF.out.2.1, ⟨_, _, _, rfl⟩, HF.out.2.2⟩
end Go.Proofs.YtmjplkbmhdkggaaDoor
