/- The short reason, as the program finds it. No conditions. -/
import Derived.Lib.RabinKarpLaws
import Derived.Test.YtjkfgldmeenmjaaMShortP
import Derived.Test.YtjkfgldmeenmjaaRowsOf
import Derived.Test.YtjkfgldmeenmjaaCmp
namespace Go.Proofs.Ytjkfgldmeenmjaa
open Go.RowKit
set_option linter.unusedVariables false
set_option linter.unusedSimpArgs false

theorem enters_short : Enters 76 := fun args w => by kernel_rfl
theorem short1_any (x : Int) (s SB : Nat) (w : World) (hx : 0 ≤ x ∧ x < 16) (hs : s < 65536) (h : w.cell? ⟨SB, 0, none⟩ = some (.int .i64 (s : Int))) :
    Calls Try.prog 76 #[.int .i64 x, .pointer (some ⟨SB, 0, none⟩)] w fun e w' => e = .returned (.bool (bitP s x)) ∧ w = w' := by
  obtain ⟨k, rfl⟩ : ∃ k : Nat, x = (k : Int) := ⟨x.toNat, by omega⟩
  have hb : (bits BinOp.and IntKind.i64 ((s : Int) / 2 ^ k) 1 == 1) = bitP s (k : Int) := by
    have hle : s / 2 ^ k ≤ s := Nat.div_le_self _ _
    rw [show ((s : Int) / 2 ^ k) = ((s / 2 ^ k : Nat) : Int) from by push_cast; rfl, and_one _ (by omega)]
    unfold bitP
    rw [Int.toNat_natCast, Nat.testBit_eq_decide_div_mod_eq, Bool.eq_iff_iff, beq_iff_eq, decide_eq_true_eq]
    omega
  go_enter Try.func76, Try.ntmps76
  go_wp2_with fail
  go_ret
  exact ⟨ret_bool rfl, rfl⟩
theorem lex_code : ∀ {a b : List Int}, Dig a → Dig b → a.length = b.length → lexC a b = cmpI (codeL a) (codeL b)
  | [], [], _, _, _ => by simp [lexC, codeL, cmpI]
  | [], y :: b, _, _, h => by simp at h
  | x :: a, [], _, _, h => by simp at h
  | x :: a, y :: b, ha, hb, h => by
    have hl : a.length = b.length := by simpa using h
    rw [lexC]
    rcases Int.lt_trichotomy x y with e | e | e
    · have := codeL_cons ha hb hl e
      have h1 : cmpI x y = -1 := by unfold cmpI; rw [if_pos e]
      have h2 : cmpI (codeL (x :: a)) (codeL (y :: b)) = -1 := by unfold cmpI; rw [if_pos this]
      rw [h1, h2, if_neg (by decide)]
    · subst e
      rw [show cmpI x x = 0 from by unfold cmpI; simp, if_pos rfl]
      rw [lex_code (fun z hz => ha z (List.mem_cons_of_mem _ hz)) (fun z hz => hb z (List.mem_cons_of_mem _ hz)) hl]
      unfold cmpI
      rw [codeL, codeL, hl]
      simp only [Int.add_lt_add_iff_left]
    · have := codeL_cons hb ha hl.symm e
      have h1 : cmpI x y = 1 := by unfold cmpI; rw [if_neg (by omega), if_pos e]
      have h2 : cmpI (codeL (x :: a)) (codeL (y :: b)) = 1 := by unfold cmpI; rw [if_neg (by omega), if_pos this]
      rw [h1, h2, if_neg (by decide)]
/-- The best choice, or nothing. -/
def bestOr (rows : List (List Int)) : List Int := (bestW rows.length (allR rows)).getD []
def bestTo (rows : List (List Int)) (k : Nat) : Option (List Int) := bestW rows.length (firstsTo rows k)
theorem bestTo_none {rows : List (List Int)} {k : Nat} (h : firsts (bitP k) rows rows.length = none) : bestTo rows (k + 1) = bestTo rows k := by
  unfold bestTo; rw [firstsTo_succ, h]
theorem bestTo_some {rows : List (List Int)} {k : Nat} {l : List Int} (h : firsts (bitP k) rows rows.length = some l) : bestTo rows (k + 1) = better rows.length (bestTo rows k) l := by
  unfold bestTo; rw [firstsTo_succ, h, bestW_snoc]
theorem firsts_dig {n : Nat} {rows : List (List Int)} (h : RowsOk n rows) {g : Int → Bool} {l : List Int} (hl : firsts g rows rows.length = some l) : Dig l ∧ l.length = rows.length :=
  allR_dig h (mem_allR.2 ⟨firsts_len hl, fun k hk => (firsts_spec h.up hl k hk).1⟩)
theorem bestTo_dig {n : Nat} {rows : List (List Int)} (h : RowsOk n rows) {k : Nat} {b : List Int} (hb : bestTo rows k = some b) : Dig b ∧ b.length = rows.length := by
  have := (bestW_some hb).1
  unfold firstsTo at this
  rw [List.mem_filterMap] at this
  obtain ⟨s, _, hs⟩ := this
  exact firsts_dig h hs
/-- What the program keeps of the best choice so far. -/
def BestV (B : Nat) (w : World) (bv lv : Value) : Option (List Int) → Prop
  | none => bv = .slice none 0 0 ∧ ∃ n : Nat, lv = .int .i64 (n : Int) ∧ n ≤ 100
  | some b => FO B w bv b ∧ lv = .int .i64 ((diffI b).length : Int)
theorem BestV.below {B : Nat} {w w' : World} {bv lv : Value} {o : Option (List Int)} (h : BestV B w bv lv o) (hb : Below w.heap.size w w') : BestV B w' bv lv o := by
  cases o with
  | none => exact h
  | some b => exact ⟨h.1.below hb, h.2⟩
theorem BestV.mono {B B' : Nat} {w : World} {bv lv : Value} {o : Option (List Int)} (h : BestV B w bv lv o) (hb : B' ≤ B) : BestV B' w bv lv o := by
  cases o with
  | none => exact h
  | some b => exact ⟨h.1.mono hb, h.2⟩
theorem or_getD {o : Option (List Int)} {b : List Int} (h : o = some b) : o.getD [] = b := by rw [h]; rfl
theorem better_lt {n : Nat} {b l : List Int} (h : wt n l < wt n b) : better n (some b) l = some l := by simp [better, h]
theorem better_ge {n : Nat} {b l : List Int} (h : ¬ wt n l < wt n b) : better n (some b) l = some b := by simp [better, h]
theorem eqlNilS (w : World) : Sem.run Try.prog (binOp .eql 29 (.slice none 0 0) (.slice none 0 0)) w = .ok (.bool true) w := by kernel_rfl
theorem eqlSomeS (w : World) (ad : Addr) (n c : Nat) : Sem.run Try.prog (binOp .eql 29 (.slice (some ad) n c) (.slice none 0 0)) w = .ok (.bool false) w := by kernel_rfl
set_option maxRecDepth 100000 in
set_option maxHeartbeats 2000000 in
theorem shortReason_any {S S' : Nat → Prop} (m : Mk) (u v : Value) (t cuts : List (List Int)) (key door n : Nat) (W : World) (hf : Fits m t cuts) (hk : key < cuts.length) (hd : door < (getl t 0).length) (hn : (n : Int) = m.c) (hR : RowsOk cuts.length (reasRows t cuts key door n)) (h : V2 S W u t) (hc : V2 S' W v cuts) :
    Calls Try.prog 49 #[.agg #[.int .i64 m.c, .int .i64 m.d, .int .i64 m.s, .int .i64 m.e, .int .i64 m.l, u], v, .int .i64 key, .int .i64 door] W fun e' w' => ∃ v' lv, e' = .returned v' ∧ BestV W.heap.size w' v' lv (bestW (reasRows t cuts key door n).length (allR (reasRows t cuts key door n))) ∧ Below W.heap.size W w' := by
  obtain ⟨a, c, rfl, hmx⟩ := h.form
  obtain ⟨a', c', rfl, hmx'⟩ := hc.form
  obtain ⟨W1, hW1, hB01, hz01, HZ01, hc01, hh01⟩ := box_facts W #[.int .i64 m.c, .int .i64 m.d, .int .i64 m.s, .int .i64 m.e, .int .i64 m.l, .slice a t.length c] 34
  have hrr := reasonRows_any m _ _ t cuts key door n W1 hf hk hd hn (h.below hB01) (hc.below hB01)
  have hmk := Mk.ok_iff.1 hf.ok
  have hcl := hf.few
  have hrw := hf.rows
  have hrl := reasRows_len t cuts key door n
  obtain ⟨rows, hrows⟩ : ∃ r, reasRows t cuts key door n = r := ⟨_, rfl⟩
  rw [hrows] at hrr hR hrl ⊢
  rw [← short_best hR]
  have hN10 : cuts.length ≤ 10 := by omega
  obtain ⟨M, hM⟩ : ∃ M, 2 ^ cuts.length = M := ⟨_, rfl⟩
  have hp2 : M ≤ 1024 := by rw [← hM]; exact Nat.le_trans (Nat.pow_le_pow_right (by decide) hN10) (by decide)
  have hp : (2 : Int) ^ cuts.length = (M : Int) := by rw [← hM]; push_cast; rfl
  have hw : IntKind.i64.wrap (M : Int) = (M : Int) := IntWalk.i64_in _ (by omega)
  have hl6 : rows.length ≤ 6 ∧ 2 ≤ rows.length := by omega
  rw [hM]
  have H := Lib.hid (And.intro hrr (And.intro hR (And.intro hM hrows))); clear hrr hR hM hrows hf hk hd hn h hc hmk hrl hcl hrw
  go_enter Try.func49, Try.ntmps49
  go_wp2_with fail
  rw [← hW1]
  refine H.out.1.mono ?_
  rintro e' w2 ⟨rv, rfl, hF2, hb2⟩
  have hRV := hF2.v2.old
  obtain ⟨ra, rc, rfl, hrm⟩ := hRV.form
  have hz2 := hb2.size
  clear hc01 hh01
  have hE1 := eqlNilS
  have hE2 := eqlSomeS
  go_wp2_with fail
  go_loopw [9, 11, 12, 13, 14, 15, 24] (fun bv lv _ _ _ _ i wr => ∃ k : Nat, k ≤ M ∧ i = .int .i64 (k : Int) ∧ BestV w2.heap.size wr bv lv (bestTo rows k) ∧ Below w2.heap.size w2 wr) (fun _ _ _ _ _ _ i _ => M - (intOf i).toNat)
  case atStart => exact ⟨0, Nat.zero_le _, rfl, ⟨rfl, 0, rfl, by omega⟩, Below.refl _ _⟩
  case round =>
    obtain ⟨k, hk, rfl, hbv, hB⟩ := hrel
    have hzr := hB.size
    by_cases hkk : k < M
    · have hRr := (hRV.below hB).any
      obtain ⟨wA, hwA, hbA, hzA, HZA, hcA, _⟩ := box_facts wr #[.int .i64 (k : Int)] 3
      have hcA0 : wA.cell? ⟨wr.heap.size, 0, none⟩ = some (.int .i64 (k : Int)) := by rw [hcA]; rfl
      have hff := firstFrom_own _ rows 76 #[.pointer (some ⟨wr.heap.size, 0, none⟩)] (bitP k) wA (hRr.below hbA) (by omega) enters_short (fun j hj w x hb hx => (short1_any x k _ w (by have := H.out.2.1.low j x hx; have := H.out.2.1.few; omega) (by omega) (cell_keep hcA0 (hb.block _ (lt_of_cell hcA0)))).mono fun _ _ ⟨e1, e2⟩ => ⟨e1, by rw [e2]; exact Below.refl _ _⟩)
      cases hfr : firsts (bitP k) rows rows.length with
      | none =>
        have hfa : firstsAns (bitP k) rows = ([], false) := by unfold firstsAns; rw [hfr]
        rw [hfa] at hff
        have Hff := Lib.hid (And.intro hff (And.intro (bestTo_none hfr) hbv)); clear hff hfa hfr hbv hcA hcA0
        go_wp2_with fail
        rw [← hwA]
        refine Hff.out.1.mono ?_
        rintro e' w5 ⟨fv, rfl, hF, hb5⟩
        obtain ⟨fa, fc, rfl, _⟩ := hF.1.v1.form
        have hb05 := hbA.trans (hb5.mono (by omega))
        clear hF
        go_wp2_with fail
        go_roundw
        case rel => exact ⟨k + 1, by omega, by go_num, by rw [Hff.out.2.1]; exact Hff.out.2.2.below hb05, hB.trans (hb05.mono hzr)⟩
        case measure => simp [intOf]; omega
      | some l =>
        have hfa : firstsAns (bitP k) rows = (l, true) := by unfold firstsAns; rw [hfr]
        rw [hfa] at hff
        have hld := firsts_dig H.out.2.1 hfr
        have hlne : l ≠ [] := by intro e; rw [e] at hld; simp at hld; omega
        have hbs := bestTo_some hfr
        have Hff := Lib.hid (And.intro hff (And.intro hbs (And.intro hld hfr))); clear hff hfa hfr hcA hcA0 hbs hld
        cases hbo : bestTo rows k with
        | none =>
          rw [hbo] at hbv
          obtain ⟨rfl, ln, rfl, hln⟩ := hbv
          have hnew : bestTo rows (k + 1) = some l := by rw [Hff.out.2.1, hbo]; rfl
          have Hbo := Lib.hid (And.intro hbo hnew); clear hbo hnew
          go_wp2_with fail
          rw [← hwA]
          refine Hff.out.1.mono ?_
          rintro e' w5 ⟨fv, rfl, hF, hb5⟩
          obtain ⟨fb, hfX, hfb⟩ := id hF.1
          obtain ⟨fa, fc, rfl, hfc, hfm, hfx⟩ := id hfX
          obtain ⟨foff, fcs, fT, rfl, _, _⟩ := hfx hlne
          have hb05 := hbA.trans (hb5.mono (by omega))
          have hz5 := hb05.size
          have HF5 := Lib.hid (hF.mono (B' := w2.heap.size) (by omega)); clear hF hfX hfx
          go_wp2_with fail
          refine (rowsOf_any _ l w5 HF5.out.1.v1 (by have := Hff.out.2.2.1.2; omega)).mono ?_
          rintro e' w6 ⟨gv, rfl, hG, hb6⟩
          obtain ⟨ga, gc, rfl, _⟩ := hG.v1.form
          have hb06 := hb05.trans (hb6.mono hz5)
          clear hG
          go_wp2_with fail
          go_roundw
          case rel => exact ⟨k + 1, by omega, by go_num, by rw [Hbo.out.2]; exact ⟨HF5.out.below hb6, rfl⟩, hB.trans (hb06.mono hzr)⟩
          case measure => simp [intOf]; omega
        | some b =>
          rw [hbo] at hbv
          obtain ⟨hFb, rfl⟩ := hbv
          have hbd := bestTo_dig H.out.2.1 hbo
          have hbne : b ≠ [] := by intro e; rw [e] at hbd; simp at hbd; omega
          obtain ⟨bb, hX1, hbb⟩ := id hFb.1
          obtain ⟨ba, bc, rfl, hbc, hbm, hbx⟩ := id hX1
          obtain ⟨boff, bcs, bT, rfl, _, _⟩ := hbx hbne
          have hbs := Hff.out.2.1
          rw [hbo] at hbs
          have Hlb := Lib.hid hbd.2.symm
          have hwl := wt_lt Hff.out.2.2.1.1 hbd.1 Hff.out.2.2.1.2 hbd.2
          obtain ⟨x, hx⟩ : ∃ x, (diffI l).length = x := ⟨_, rfl⟩
          obtain ⟨y, hy⟩ : ∃ y, (diffI b).length = y := ⟨_, rfl⟩
          rw [hx, hy] at hwl
          rw [hy]
          by_cases h1 : x < y
          · have hnew : bestTo rows (k + 1) = some l := by rw [hbs]; exact better_lt (hwl.2 (.inl h1))
            have h1i : ((diffI l).length : Int) < (y : Int) := by omega
            have Hbo := Lib.hid (And.intro hx hnew); clear hbo hnew hbs hwl hx hy hX1 hbd
            have HFb := Lib.hid hFb; clear hFb
            go_wp2_with fail
            rw [← hwA]
            refine Hff.out.1.mono ?_
            rintro e' w5 ⟨fv, rfl, hF, hb5⟩
            obtain ⟨fb, hfX, hfb⟩ := id hF.1
            obtain ⟨fa, fc, rfl, hfc, hfm, hfx⟩ := id hfX
            obtain ⟨foff, fcs, fT, rfl, _, _⟩ := hfx hlne
            have hb05 := hbA.trans (hb5.mono (by omega))
            have hz5 := hb05.size
            have HF5 := Lib.hid (hF.mono (B' := w2.heap.size) (by omega)); clear hF hfX hfx
            go_wp2_with fail
            refine (rowsOf_any _ l w5 HF5.out.1.v1 (by have := Hff.out.2.2.1.2; omega)).mono ?_
            rintro e' w6 ⟨gv, rfl, hG, hb6⟩
            obtain ⟨ga, gc, rfl, _⟩ := hG.v1.form
            have hb06 := hb05.trans (hb6.mono hz5)
            clear hG
            go_wp2_with fail
            go_roundw
            case rel => exact ⟨k + 1, by omega, by go_num, by rw [Hbo.out.2]; exact ⟨HF5.out.below hb6, rfl⟩, hB.trans (hb06.mono hzr)⟩
            case measure => simp [intOf]; omega
          · by_cases h2 : x = y
            · have h1i : ¬ ((diffI l).length : Int) < (y : Int) := by omega
              have h2b : (((diffI l).length : Int) == (y : Int)) = true := by simp; omega
              have hlc := lex_code Hff.out.2.2.1.1 hbd.1 (by rw [Hff.out.2.2.1.2, hbd.2])
              obtain ⟨q, hq⟩ : ∃ q, lexC l b = q := ⟨_, rfl⟩
              rw [hq] at hlc
              by_cases hq0 : q < 0
              · have hcl : codeL l < codeL b := by
                  unfold cmpI at hlc
                  by_cases h3 : codeL l < codeL b
                  · exact h3
                  · rw [if_neg h3] at hlc; split at hlc <;> omega
                have hnew : bestTo rows (k + 1) = some l := by rw [hbs]; exact better_lt (hwl.2 (.inr ⟨h2, hcl⟩))
                have Hbo := Lib.hid (And.intro hx (And.intro hnew hq)); clear hbo hnew hbs hwl hx hy hX1 hbd hlc hq hcl
                have HFb := Lib.hid hFb; clear hFb
                go_wp2_with fail
                rw [← hwA]
                refine Hff.out.1.mono ?_
                rintro e' w5 ⟨fv, rfl, hF, hb5⟩
                obtain ⟨fb, hfX, hfb⟩ := id hF.1
                obtain ⟨fa, fc, rfl, hfc, hfm, hfx⟩ := id hfX
                obtain ⟨foff, fcs, fT, rfl, _, _⟩ := hfx hlne
                have hb05 := hbA.trans (hb5.mono (by omega))
                have hz5 := hb05.size
                have HF5 := Lib.hid (hF.mono (B' := w2.heap.size) (by omega)); clear hF hfX hfx
                go_wp2_with fail
                refine (rowsOf_any _ l w5 HF5.out.1.v1 (by have := Hff.out.2.2.1.2; omega)).mono ?_
                rintro e' w6 ⟨gv, rfl, hG, hb6⟩
                obtain ⟨ga, gc, rfl, _⟩ := hG.v1.form
                have hb06 := hb05.trans (hb6.mono hz5)
                clear hG
                go_wp2_with fail
                refine (slCompare_any _ _ l b w6 (HF5.out.1.v1.below hb6) (HFb.out.1.v1.below hb06) (by rw [Hff.out.2.2.1.2]; exact Hlb.out)).mono ?_
                rintro e' w' ⟨rfl, rfl⟩
                rw [Hbo.out.2.2]
                go_wp2_with fail
                go_roundw
                case rel => exact ⟨k + 1, by omega, by go_num, by rw [Hbo.out.2.1]; exact ⟨HF5.out.below hb6, rfl⟩, hB.trans (hb06.mono hzr)⟩
                case measure => simp [intOf]; omega
              · have hcl : ¬ codeL l < codeL b := by
                  intro h3
                  unfold cmpI at hlc
                  rw [if_pos h3] at hlc; omega
                have hnew : bestTo rows (k + 1) = some b := by rw [hbs]; exact better_ge (fun hh => by rcases hwl.1 hh with h3 | h3 <;> omega)
                have Hbo := Lib.hid (And.intro hx (And.intro hnew (And.intro hq hy))); clear hbo hnew hbs hwl hx hy hX1 hbd hlc hq hcl
                have HFb := Lib.hid hFb; clear hFb
                go_wp2_with fail
                rw [← hwA]
                refine Hff.out.1.mono ?_
                rintro e' w5 ⟨fv, rfl, hF, hb5⟩
                obtain ⟨fb, hfX, hfb⟩ := id hF.1
                obtain ⟨fa, fc, rfl, hfc, hfm, hfx⟩ := id hfX
                obtain ⟨foff, fcs, fT, rfl, _, _⟩ := hfx hlne
                have hb05 := hbA.trans (hb5.mono (by omega))
                have hz5 := hb05.size
                have HF5 := Lib.hid (hF.mono (B' := w2.heap.size) (by omega)); clear hF hfX hfx
                go_wp2_with fail
                refine (rowsOf_any _ l w5 HF5.out.1.v1 (by have := Hff.out.2.2.1.2; omega)).mono ?_
                rintro e' w6 ⟨gv, rfl, hG, hb6⟩
                obtain ⟨ga, gc, rfl, _⟩ := hG.v1.form
                have hb06 := hb05.trans (hb6.mono hz5)
                clear hG
                go_wp2_with fail
                refine (slCompare_any _ _ l b w6 (HF5.out.1.v1.below hb6) (HFb.out.1.v1.below hb06) (by rw [Hff.out.2.2.1.2]; exact Hlb.out)).mono ?_
                rintro e' w' ⟨rfl, rfl⟩
                rw [Hbo.out.2.2.1]
                go_wp2_with fail
                go_roundw
                case rel => exact ⟨k + 1, by omega, by go_num, by rw [Hbo.out.2.1]; exact ⟨HFb.out.below hb06, by rw [Hbo.out.2.2.2]⟩, hB.trans (hb06.mono hzr)⟩
                case measure => simp [intOf]; omega
            · have h1i : ¬ ((diffI l).length : Int) < (y : Int) := by omega
              have h2b : (((diffI l).length : Int) == (y : Int)) = false := by simp; omega
              have hnew : bestTo rows (k + 1) = some b := by rw [hbs]; exact better_ge (fun hh => by rcases hwl.1 hh with h3 | h3 <;> omega)
              have Hbo := Lib.hid (And.intro hx (And.intro hnew hy)); clear hbo hnew hbs hwl hx hy hX1 hbd
              have HFb := Lib.hid hFb; clear hFb
              go_wp2_with fail
              rw [← hwA]
              refine Hff.out.1.mono ?_
              rintro e' w5 ⟨fv, rfl, hF, hb5⟩
              obtain ⟨fb, hfX, hfb⟩ := id hF.1
              obtain ⟨fa, fc, rfl, hfc, hfm, hfx⟩ := id hfX
              obtain ⟨foff, fcs, fT, rfl, _, _⟩ := hfx hlne
              have hb05 := hbA.trans (hb5.mono (by omega))
              have hz5 := hb05.size
              have HF5 := Lib.hid (hF.mono (B' := w2.heap.size) (by omega)); clear hF hfX hfx
              go_wp2_with fail
              refine (rowsOf_any _ l w5 HF5.out.1.v1 (by have := Hff.out.2.2.1.2; omega)).mono ?_
              rintro e' w6 ⟨gv, rfl, hG, hb6⟩
              obtain ⟨ga, gc, rfl, _⟩ := hG.v1.form
              have hb06 := hb05.trans (hb6.mono hz5)
              clear hG
              go_wp2_with fail
              go_roundw
              case rel => exact ⟨k + 1, by omega, by go_num, by rw [Hbo.out.2.1]; exact ⟨HFb.out.below hb06, by rw [Hbo.out.2.2]⟩, hB.trans (hb06.mono hzr)⟩
              case measure => simp [intOf]; omega
    · obtain rfl : k = M := by omega
      have Hbv := Lib.hid hbv; clear hbv
      go_wp2_with fail
      go_ret
      exact ⟨_, _, rfl, Hbv.out.mono (by omega), hB01.trans ((hb2.trans (hB.mono hz2)).mono (by omega))⟩
end Go.Proofs.Ytjkfgldmeenmjaa
