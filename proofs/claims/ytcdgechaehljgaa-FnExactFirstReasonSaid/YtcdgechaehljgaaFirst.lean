/- The first rows that may stand in a reason: slices.IndexFunc over numbers, firstFrom, FirstReason. No conditions. -/
import Derived.Test.YtcdgechaehljgaaReasE
namespace Go.Proofs.Ytcdgechaehljgaa
open Go.RowKit
set_option linter.unusedVariables false
set_option linter.unusedSimpArgs false

/-- A function value that answers g of a number, and makes at most new memory. -/
def PredI (f : FuncId) (caps : Array Value) (W : World) (g : Int → Bool) (l : List Int) : Prop :=
  ∀ (w : World) (x : Int), Below W.heap.size W w → x ∈ l → Calls Try.prog f (#[.int .i64 x] ++ caps) w fun e w' => e = .returned (.bool (g x)) ∧ Below w.heap.size w w'
theorem indexFuncI_any {S : Nat → Prop} (v : Value) (l : List Int) (f : FuncId) (caps : Array Value) (g : Int → Bool) (W : World) (h : V1 S W v l) (hf : Enters f) (hp : PredI f caps W g l) :
    Calls Try.prog 122 #[v, .func (.func f) #[] caps] W fun e' w' => e' = .returned (.int .i64 (idxR g l 0)) ∧ Below W.heap.size W w' := by
  have hV := h
  obtain ⟨a, c, rfl, hm⟩ := h.form
  have Hp := Lib.hid hp; clear hp
  go_enter Try.func122, Try.ntmps122
  go_wp2_with fail
  go_loopw [5, 8] (fun _ i wr => ∃ k : Nat, k ≤ l.length ∧ i = .int .i64 k ∧ idxR g l 0 = idxR g (l.drop k) k ∧ Below W.heap.size W wr) (fun _ i _ => l.length - (intOf i).toNat)
  case atStart => exact ⟨0, Nat.zero_le _, rfl, rfl, Below.refl _ _⟩
  case round =>
    obtain ⟨k, hk, rfl, hrem, hB⟩ := hrel
    have Hr := Lib.hid hrem; clear hrem
    by_cases hkk : k < l.length
    · obtain ⟨b1, off1, rfl, _, hc1⟩ := (hV.below hB).cell hkk
      have hf' := hf
      unfold Enters at hf'
      cases hg : g (geti l k)
      · have HG := Lib.hid hg; clear hg
        go_wp2_with fail
        have hcl := Hp.out _ _ hB (geti_mem hkk)
        rw [HG.out] at hcl
        refine hcl.mono ?_
        rintro e' w' ⟨rfl, hb⟩
        have hzB := hb.size
        have hzW := hB.size
        go_wp2_with fail
        go_roundw
        case rel => exact ⟨k + 1, by omega, by go_num, by rw [Hr.out, idxR_stepi hkk, HG.out]; rfl, hB.trans (hb.mono hzW)⟩
        case measure => simp [intOf]; omega
      · have HG := Lib.hid hg; clear hg
        go_wp2_with fail
        have hcl := Hp.out _ _ hB (geti_mem hkk)
        rw [HG.out] at hcl
        refine hcl.mono ?_
        rintro e' w' ⟨rfl, hb⟩
        have hzB := hb.size
        have hzW := hB.size
        go_wp2_with fail
        go_ret
        exact ⟨ret_int (by rw [Hr.out, idxR_stepi hkk, HG.out]; rfl), hB.trans (hb.mono hzW)⟩
    · have hd : l.drop k = [] := List.drop_of_length_le (by omega)
      have Hd := Lib.hid hd; clear hd
      go_wp2_with fail
      go_ret
      exact ⟨ret_int (by rw [Hr.out, Hd.out]; rfl), hB⟩
theorem idxR_lt {g : Int → Bool} : ∀ {l : List Int} {k : Nat}, 0 ≤ idxR g l k → idxR g l k < k + l.length
  | [], k, h => by simp [idxR] at h
  | x :: xs, k, h => by
    unfold idxR at h ⊢
    split at h
    · rename_i hg; rw [if_pos hg]; simp; omega
    · rename_i hg; rw [if_neg hg]; have := idxR_lt h; simp; omega

theorem containsFuncI_any {S : Nat → Prop} (v : Value) (l : List Int) (f : FuncId) (caps : Array Value) (g : Int → Bool) (W : World) (h : V1 S W v l) (hf : Enters f) (hp : PredI f caps W g l) :
    Calls Try.prog 77 #[v, .func (.func f) #[] caps] W fun e' w' => e' = .returned (.bool (l.any g)) ∧ Below W.heap.size W w' := by
  have hfin := (idxR_any g l 0).1
  have Hfin := Lib.hid hfin; clear hfin
  go_enter Try.func77, Try.ntmps77
  go_wp2_with fail
  refine (indexFuncI_any _ _ _ _ _ _ h hf hp).mono ?_
  rintro e' w' ⟨rfl, hb⟩
  go_wp2_with fail
  go_ret
  exact ⟨ret_bool (by rw [← Hfin.out]), hb⟩

/-- The first numbers of the first k lists that g lets pass, if each of these lists has one. -/
def firsts (g : Int → Bool) (ls : List (List Int)) : Nat → Option (List Int)
  | 0 => some []
  | k + 1 => match firsts g ls k with
    | none => none
    | some l => if idxR g (getl ls k) 0 < 0 then none else some (l ++ [geti (getl ls k) (idxR g (getl ls k) 0).toNat])
theorem firsts_len {g : Int → Bool} {ls : List (List Int)} : ∀ {k : Nat} {l : List Int}, firsts g ls k = some l → l.length = k
  | 0, l, h => by simp [firsts] at h; simp [← h]
  | k + 1, l, h => by
    unfold firsts at h
    split at h
    · cases h
    · rename_i l' hl'
      split at h
      · cases h
      · injection h with h; subst h; simp [firsts_len hl']
theorem firsts_none {g : Int → Bool} {ls : List (List Int)} {k : Nat} (h : firsts g ls k = none) : ∀ {n}, k ≤ n → firsts g ls n = none
  | 0, hk => by obtain rfl : k = 0 := by omega
                exact h
  | n + 1, hk => by
    by_cases hkn : k = n + 1
    · subst hkn; exact h
    · unfold firsts; rw [firsts_none h (show k ≤ n by omega)]
def firstsAns (g : Int → Bool) (ls : List (List Int)) : List Int × Bool := match firsts g ls ls.length with
  | none => ([], false)
  | some l => (l, true)

theorem firstFrom_any {S : Nat → Prop} (v : Value) (ls : List (List Int)) (f : FuncId) (caps : Array Value) (g : Int → Bool) (W : World) (h : V2 S W v ls) (hl6 : ls.length ≤ 1048576) (hf : Enters f) (hp : ∀ k, k < ls.length → PredI f caps W g (getl ls k)) :
    Calls Try.prog 84 #[v, .func (.func f) #[] caps] W fun e' w' => ∃ v', e' = .returned (.tuple #[v', .bool (firstsAns g ls).2]) ∧ F1 W.heap.size w' v' (firstsAns g ls).1 ∧ Below W.heap.size W w' := by
  have hV := h
  obtain ⟨a, c, rfl, hm⟩ := h.form
  have Hp := Lib.hid hp; clear hp
  obtain ⟨B, hBs⟩ : ∃ B, B = W.heap.size := ⟨_, rfl⟩
  rw [← hBs]
  have hown0 := own_lit0 W B 2 1 (by omega)
  obtain ⟨ans, hans⟩ : ∃ r, firstsAns g ls = r := ⟨_, rfl⟩
  rw [hans]
  have Hans := Lib.hid hans; clear hans
  have Hp2 : ∀ w : World, Below B W w → Below W.heap.size W w := fun w h => by rw [← hBs]; exact h
  have hBle : B ≤ W.heap.size := by omega
  have hBge : W.heap.size ≤ B := by omega
  have Hp2 := Lib.hid Hp2
  have hHB := Lib.hid hBs
  clear hBs
  go_enter Try.func84, Try.ntmps84
  go_wp2_with fail
  go_loopw [6, 8, 9, 13] (fun ro _ _ i wr => ∃ (k : Nat) (l : List Int), k ≤ ls.length ∧ i = .int .i64 k ∧ firsts g ls k = some l ∧ wr.ownsRow B 2 1 ro l.length (l.map (Value.int .i64)) ∧ Below B W wr) (fun _ _ _ i _ => ls.length - (intOf i).toNat)
  case atStart => exact ⟨0, [], Nat.zero_le _, rfl, rfl, hown0, (Below.refl _ _).alloc (by omega) _⟩
  case round =>
    obtain ⟨k, l, hk, rfl, hfk, hown, hB⟩ := hrel
    have hll := firsts_len hfk
    have Hfk := Lib.hid hfk; clear hfk
    by_cases hkk : k < ls.length
    · obtain ⟨b1, off1, a1, c1, rfl, _, hc1, hr1⟩ := (hV.below (Hp2.out _ hB)).cell hkk
      have hlen1 := hr1.len
      unfold maxLen at hlen1
      have hpk : PredI f caps wr g (getl ls k) := fun w x hb hx => Hp.out k hkk w x (Hp2.out _ (hB.trans (hb.mono (by have := hB.size; omega)))) hx
      by_cases hix : idxR g (getl ls k) 0 < 0
      · have hfin : ans = ([], false) := by
          rw [← Hans.out]; unfold firstsAns
          rw [firsts_none (k := k + 1) (by unfold firsts; rw [Hfk.out]; simp only [if_pos hix]) (by omega)]
        subst hfin
        have Hown := Lib.hid hown; clear hown
        go_wp2_with fail
        refine (indexFuncI_any _ _ _ _ _ _ hr1 hf hpk).mono ?_
        rintro e' w2 ⟨rfl, hb2⟩
        generalize idxR g (getl ls k) 0 = q at *
        go_wp2_with fail
        go_ret2
        exact ⟨_, rfl, ⟨0, ⟨none, 0, rfl, Nat.le_refl _, Nat.zero_le _, fun hn => absurd rfl hn⟩, fun hn => absurd rfl hn⟩, hB.trans (hb2.mono (by have := hB.size; omega))⟩
      · have hlt := idxR_lt (g := g) (l := getl ls k) (k := 0) (by omega)
        have hst : firsts g ls (k + 1) = some (l ++ [geti (getl ls k) (idxR g (getl ls k) 0).toNat]) := by
          unfold firsts; rw [Hfk.out]; simp only [if_neg hix]
        have Hst := Lib.hid hst; clear hst
        obtain ⟨q, hq⟩ : ∃ q : Nat, idxR g (getl ls k) 0 = (q : Int) := ⟨(idxR g (getl ls k) 0).toNat, by omega⟩
        have hql : q < (getl ls k).length := by omega
        have Hq := Lib.hid hq; clear hq
        clear hix hlt
        have Hown := Lib.hid hown; clear hown
        go_wp2_with fail
        refine (indexFuncI_any _ _ _ _ _ _ hr1 hf hpk).mono ?_
        rintro e' w2 ⟨rfl, hb2⟩
        rw [Hq.out]
        obtain ⟨b2, off2, ea, _, hc2⟩ := (hr1.below hb2).cell hql
        subst ea
        have hown2 := own_chg Hown.out (Chg.of_below (F := fun _ => False) hb2) (fun _ _ h => h)
        have hB2 := hB.trans (hb2.mono (by have := hB.size; omega))
        have hzB := hB2.size
        go_wp2_with (at_builtin; refine wp_app1 _ rfl _ _ 43 rfl B 2 (.int .i64 0) 8 Try.underlying43 inf_int rfl _ _ _ rfl hown2 (.int .i64 (geti (getl ls k) q)) _ rfl rfl (by omega) (by omega) (by omega) ?_; intro v1 w1 hown1 hgrow1 hblk1 hB1)
        go_roundw
        case rel =>
          refine ⟨k + 1, _, by omega, by go_num, Hst.out, ?_, ?_⟩
          · rw [Hq.out]
            simpa using hown1
          · exact hB2.trans (hB1.mono (by omega))
        case measure => simp [intOf]; omega
    · obtain rfl : k = ls.length := by omega
      have hfin : ans = (l, true) := by
        rw [← Hans.out]; unfold firstsAns
        rw [Hfk.out]
      subst hfin
      go_wp2_with fail
      go_ret2
      exact ⟨_, rfl, own_F1 hown, hB⟩

theorem idxR_true (l : List Int) : idxR (fun _ => true) l 0 = if l.length = 0 then -1 else 0 := by
  cases l <;> simp [idxR]
theorem firsts_true {ls : List (List Int)} : ∀ {k : Nat}, (∀ j, j < k → (getl ls j).length ≠ 0) → firsts (fun _ => true) ls k = some ((List.range k).map fun j => geti (getl ls j) 0)
  | 0, _ => rfl
  | k + 1, h => by
    unfold firsts
    rw [firsts_true (fun j hj => h j (by omega)), idxR_true, if_neg (h k (by omega))]
    simp [List.range_succ]
theorem firsts_empty {ls : List (List Int)} {j n : Nat} (h : (getl ls j).length = 0) (hn : j < n) : firsts (fun _ => true) ls n = none := by
  refine firsts_none (k := j + 1) ?_ (by omega)
  unfold firsts
  rw [idxR_true, if_pos h]
  cases firsts (fun _ => true) ls j <;> simp
theorem prodTo_zero {ls : List (List Int)} : ∀ {k : Nat}, prodTo ls k = 0 → ∃ j, j < k ∧ (getl ls j).length = 0
  | 0, h => by simp [prodTo] at h
  | k + 1, h => by
    unfold prodTo at h
    rcases Nat.mul_eq_zero.1 h with h | h
    · obtain ⟨j, hj, hl⟩ := prodTo_zero h; exact ⟨j, by omega, hl⟩
    · exact ⟨k, by omega, h⟩
theorem prodTo_pos {ls : List (List Int)} : ∀ {k : Nat}, prodTo ls k ≠ 0 → ∀ j, j < k → (getl ls j).length ≠ 0
  | 0, h, j, hj => by omega
  | k + 1, h, j, hj => by
    unfold prodTo at h
    by_cases hjk : j = k
    · subst hjk; exact fun e => h (by rw [e, Nat.mul_zero])
    · exact prodTo_pos (fun e => h (by rw [e, Nat.zero_mul])) j (by omega)

def firstReas (rows : List (List Int)) : List Int × Int := if prodTo rows rows.length = 0 then ([], 4) else ((List.range rows.length).map (fun j => geti (getl rows j) 0), 0)
theorem firstsAns_true (rows : List (List Int)) : firstsAns (fun _ => true) rows = ((firstReas rows).1, decide ((firstReas rows).2 = 0)) := by
  unfold firstsAns firstReas
  by_cases h : prodTo rows rows.length = 0
  · obtain ⟨j, hj, hl⟩ := prodTo_zero h
    rw [if_pos h, firsts_empty hl hj]; rfl
  · rw [if_neg h, firsts_true (prodTo_pos h)]; rfl
def firstReasAns (m : Mk) (t cuts : List (List Int)) (key door : Int) : List Int × Int :=
  if reasC m t cuts key door ≠ 0 then ([], reasC m t cuts key door) else firstReas (reasRows t cuts key.toNat door.toNat m.c.toNat)

theorem F1.empty {B : Nat} {w : World} : F1 B w (.slice none 0 0) [] := ⟨0, ⟨none, 0, rfl, Nat.le_refl _, Nat.zero_le _, fun hn => absurd rfl hn⟩, fun hn => absurd rfl hn⟩
theorem enters_first : Enters 85 := fun args w => by kernel_rfl
theorem first1_any (x : Int) (W : World) : Calls Try.prog 85 #[.int .i64 x] W fun e' w' => e' = .returned (.bool true) ∧ W = w' := by
  go_enter Try.func85, Try.ntmps85
  go_wp2_with fail
  go_ret
  exact ⟨rfl, rfl⟩

set_option maxRecDepth 100000 in
theorem FirstReason_any {S S' : Nat → Prop} (m : Mk) (u v : Value) (t cuts : List (List Int)) (key door : Int) (W : World) (h : V2 S W u t) (hc : V2 S' W v cuts) :
    Calls Try.prog 44 #[.agg #[.int .i64 m.c, .int .i64 m.d, .int .i64 m.s, .int .i64 m.e, .int .i64 m.l, u], v, .int .i64 key, .int .i64 door] W fun e' w' => ∃ v', e' = .returned (.tuple #[v', .int .i64 (firstReasAns m t cuts key door).2]) ∧ F1 W.heap.size w' v' (firstReasAns m t cuts key door).1 ∧ Below W.heap.size W w' := by
  obtain ⟨a, c, rfl, hmx⟩ := h.form
  obtain ⟨a', c', rfl, hmx'⟩ := hc.form
  obtain ⟨W1, hW1, hB01, hz01, HZ01, hc01, hh01⟩ := box_facts W #[.int .i64 m.c, .int .i64 m.d, .int .i64 m.s, .int .i64 m.e, .int .i64 m.l, .slice a t.length c] 32
  have hV1 : V2 (fun _ => True) W1 (.slice a t.length c) t := (h.below hB01).mono (fun _ _ _ => trivial) (fun _ _ _ => rfl)
  have hC1 : V2 (fun _ => True) W1 (.slice a' cuts.length c') cuts := (hc.below hB01).mono (fun _ _ _ => trivial) (fun _ _ _ => rfl)
  have hpart := reasonCode_any m _ _ t cuts key door W1 hV1 hC1
  by_cases hp : reasC m t cuts key door = 0
  · rw [hp] at hpart
    have hfin : firstReasAns m t cuts key door = firstReas (reasRows t cuts key.toNat door.toNat m.c.toNat) := by unfold firstReasAns; rw [if_neg (by rw [hp]; decide)]
    rw [hfin]
    obtain ⟨hpc, k, d, rfl, rfl, hk, hd, _⟩ := reasC_ok hp
    have hf := fits_of hpc
    have hmk := Mk.ok_iff.1 hf.ok
    simp only [Int.toNat_natCast]
    obtain ⟨n, hn, hn6, hn0⟩ : ∃ n : Nat, m.c.toNat = n ∧ n ≤ 6 ∧ (n : Int) = m.c := ⟨_, rfl, by omega, by omega⟩
    rw [hn]
    have hlen := reasRows_len t cuts k d n
    have hsm := reasRows_small (t := t) (key := k) (door := d) (n := n) (show cuts.length ≤ 10 by have := hf.few; have := hf.rows; omega)
    have Hn := Lib.hid (And.intro hn hn0); clear hn hn0 hfin hp hpc hmk
    have Hf := Lib.hid hf; clear hf
    generalize hR : reasRows t cuts k d n = R at *
    have HR := Lib.hid hR; clear hR
    have Hsm := Lib.hid hsm; clear hsm
    have hR6 : R.length ≤ 6 := by omega
    clear hlen
    have hft := firstsAns_true R
    by_cases h0 : prodTo R R.length = 0
    · have hfr : firstReas R = ([], 4) := by unfold firstReas; rw [if_pos h0]
      rw [hfr] at hft ⊢
      have Hft := Lib.hid hft; clear hft hfr h0
      go_enter Try.func44, Try.ntmps44
      go_wp2_with fail
      rw [← hW1]
      refine hpart.mono ?_
      rintro e' w2 ⟨rfl, hb2⟩
      have hx2 : ∀ o, w2.cell? ⟨W.heap.size, o, none⟩ = (#[.int .i64 m.c, .int .i64 m.d, .int .i64 m.s, .int .i64 m.e, .int .i64 m.l, .slice a t.length c] : Array Value)[o]? := fun o => by rw [(bcell hb2).1 _ _ hz01, hc01]
      clear hc01 hh01
      have HW1 := Lib.hid hW1; clear hW1
      go_wp2_with fail
      refine (reasonRows_any m _ _ t cuts k d n _ Hf.out hk hd Hn.out.2 (hV1.below hb2) (hC1.below hb2)).mono ?_
      rintro e' w3 ⟨v3, rfl, hF, hb3⟩
      rw [HR.out] at hF
      have hV3 := hF.v2
      obtain ⟨a3, c3, rfl, hl3⟩ := hV3.form
      have hBf := hB01.trans ((hb2.trans (hb3.mono hb2.size)).mono (by omega))
      have hzf := hBf.size
      clear hx2
      go_wp2_with fail
      refine (firstFrom_any _ R _ #[] (fun _ => true) w3 hV3 (by omega) enters_first (fun k hk w x hb hx => by refine (first1_any x w).mono ?_; rintro e' w' ⟨rfl, rfl⟩; exact ⟨rfl, Below.refl _ _⟩)).mono ?_
      rintro e' w4 ⟨v4, rfl, hF4, hb4⟩
      rw [Hft.out]
      have hBg := hBf.trans (hb4.mono hzf)
      clear hF4
      go_wp2_with fail
      go_ret2
      exact ⟨_, rfl, F1.empty, hBg⟩
    · have hfr : (firstReas R).2 = 0 := by unfold firstReas; rw [if_neg h0]
      rw [hfr] at hft ⊢
      generalize (firstReas R).1 = la at *
      have Hft := Lib.hid hft; clear hft hfr h0
      go_enter Try.func44, Try.ntmps44
      go_wp2_with fail
      rw [← hW1]
      refine hpart.mono ?_
      rintro e' w2 ⟨rfl, hb2⟩
      have hx2 : ∀ o, w2.cell? ⟨W.heap.size, o, none⟩ = (#[.int .i64 m.c, .int .i64 m.d, .int .i64 m.s, .int .i64 m.e, .int .i64 m.l, .slice a t.length c] : Array Value)[o]? := fun o => by rw [(bcell hb2).1 _ _ hz01, hc01]
      clear hc01 hh01
      have HW1 := Lib.hid hW1; clear hW1
      go_wp2_with fail
      refine (reasonRows_any m _ _ t cuts k d n _ Hf.out hk hd Hn.out.2 (hV1.below hb2) (hC1.below hb2)).mono ?_
      rintro e' w3 ⟨v3, rfl, hF, hb3⟩
      rw [HR.out] at hF
      have hV3 := hF.v2
      obtain ⟨a3, c3, rfl, hl3⟩ := hV3.form
      have hBf := hB01.trans ((hb2.trans (hb3.mono hb2.size)).mono (by omega))
      have hzf := hBf.size
      clear hx2
      go_wp2_with fail
      refine (firstFrom_any _ R _ #[] (fun _ => true) w3 hV3 (by omega) enters_first (fun k hk w x hb hx => by refine (first1_any x w).mono ?_; rintro e' w' ⟨rfl, rfl⟩; exact ⟨rfl, Below.refl _ _⟩)).mono ?_
      rintro e' w4 ⟨v4, rfl, hF4, hb4⟩
      rw [Hft.out] at hF4 ⊢
      have hBg := hBf.trans (hb4.mono hzf)
      have HF4 := Lib.hid (hF4.mono hzf); clear hF4
      go_wp2_with fail
      go_ret2
      exact ⟨_, rfl, HF4.out, hBg⟩
  · have hfin : firstReasAns m t cuts key door = ([], reasC m t cuts key door) := by unfold firstReasAns; rw [if_pos hp]
    have e1 : (reasC m t cuts key door != 0) = true := by simp [hp]
    rw [hfin]
    have Hp := Lib.hid hp; clear hp hfin
    generalize reasC m t cuts key door = pc at *
    go_enter Try.func44, Try.ntmps44
    go_wp2_with fail
    rw [← hW1]
    refine hpart.mono ?_
    rintro e' w2 ⟨rfl, hb2⟩
    clear hc01 hh01
    go_wp2_with fail
    go_ret2
    exact ⟨_, rfl, F1.empty, hB01.trans (hb2.mono (by omega))⟩
set_option maxRecDepth 100000 in
theorem FirstReasonR_any {S S' : Nat → Prop} (m : Mk) (u v : Value) (t cuts : List (List Int)) (key door : Int) (W : World) (h : V2 S W u t) (hc : V2 S' W v cuts) :
    Calls Try.prog 43 #[.agg #[.int .i64 m.c, .int .i64 m.d, .int .i64 m.s, .int .i64 m.e, .int .i64 m.l, u], v, .int .i64 key, .int .i64 door] W fun e' w' => ∃ v', e' = .returned (.tuple #[v', .int .i64 (firstReasAns m t cuts key door).2]) ∧ F1 W.heap.size w' v' (firstReasAns m t cuts key door).1 ∧ Below W.heap.size W w' := by
  obtain ⟨a, c, rfl, hmx⟩ := h.form
  obtain ⟨a', c', rfl, hmx'⟩ := hc.form
  obtain ⟨W1, hW1, hB01, hz01, HZ01, hc01, hh01⟩ := box_facts W #[.int .i64 m.c, .int .i64 m.d, .int .i64 m.s, .int .i64 m.e, .int .i64 m.l, .slice a t.length c] 32
  have hV1 : V2 (fun _ => True) W1 (.slice a t.length c) t := (h.below hB01).mono (fun _ _ _ => trivial) (fun _ _ _ => rfl)
  have hC1 : V2 (fun _ => True) W1 (.slice a' cuts.length c') cuts := (hc.below hB01).mono (fun _ _ _ => trivial) (fun _ _ _ => rfl)
  have hpart := l18Code_any m _ _ t cuts key door W1 hV1 hC1
  by_cases hp : reasC m t cuts key door = 0
  · rw [hp] at hpart
    have hfin : firstReasAns m t cuts key door = firstReas (reasRows t cuts key.toNat door.toNat m.c.toNat) := by unfold firstReasAns; rw [if_neg (by rw [hp]; decide)]
    rw [hfin]
    obtain ⟨hpc, k, d, rfl, rfl, hk, hd, _⟩ := reasC_ok hp
    have hf := fits_of hpc
    have hmk := Mk.ok_iff.1 hf.ok
    simp only [Int.toNat_natCast]
    obtain ⟨n, hn, hn6, hn0⟩ : ∃ n : Nat, m.c.toNat = n ∧ n ≤ 6 ∧ (n : Int) = m.c := ⟨_, rfl, by omega, by omega⟩
    rw [hn]
    have hlen := reasRows_len t cuts k d n
    have hsm := reasRows_small (t := t) (key := k) (door := d) (n := n) (show cuts.length ≤ 10 by have := hf.few; have := hf.rows; omega)
    have Hn := Lib.hid (And.intro hn hn0); clear hn hn0 hfin hp hpc hmk
    have Hf := Lib.hid hf; clear hf
    generalize hR : reasRows t cuts k d n = R at *
    have HR := Lib.hid hR; clear hR
    have Hsm := Lib.hid hsm; clear hsm
    have hR6 : R.length ≤ 6 := by omega
    clear hlen
    by_cases h0 : prodTo R R.length = 0
    · have hfr : firstReas R = ([], 4) := by unfold firstReas; rw [if_pos h0]
      rw [hfr]
      have H0 := Lib.hid h0; clear h0 hfr
      go_enter Try.func43, Try.ntmps43
      go_wp2_with fail
      rw [← hW1]
      refine hpart.mono ?_
      rintro e' w2 ⟨rfl, hb2⟩
      have hx2 : ∀ o, w2.cell? ⟨W.heap.size, o, none⟩ = (#[.int .i64 m.c, .int .i64 m.d, .int .i64 m.s, .int .i64 m.e, .int .i64 m.l, .slice a t.length c] : Array Value)[o]? := fun o => by rw [(bcell hb2).1 _ _ hz01, hc01]
      clear hc01 hh01
      have HW1 := Lib.hid hW1; clear hW1
      go_wp2_with fail
      refine (l18Rows_any m _ _ t cuts k d n _ Hf.out hk hd Hn.out.2 (hV1.below hb2) (hC1.below hb2)).mono ?_
      rintro e' w3 ⟨v3, rfl, hF, hb3⟩
      rw [HR.out] at hF
      have hV3 := hF.v2
      obtain ⟨a3, c3, rfl, hl3⟩ := hV3.form
      have hBf := hB01.trans ((hb2.trans (hb3.mono hb2.size)).mono (by omega))
      have hzf := hBf.size
      clear hx2
      go_wp2_with fail
      refine (l18Number_any _ _ _ hV3 Hsm.out hR6).mono ?_
      rintro e' w4 ⟨rfl, rfl⟩
      rw [H0.out]
      go_wp2_with fail
      go_ret2
      exact ⟨_, rfl, F1.empty, hBf⟩
    · have hfr : firstReas R = ((List.range R.length).map (fun j => geti (getl R j) 0), 0) := by unfold firstReas; rw [if_neg h0]
      rw [hfr]
      have hpos := prodTo_pos h0
      have h0'' : (((prodTo R R.length : Nat) : Int) == 0) = false := by simp [h0]
      have Hpos := Lib.hid hpos; clear hpos hfr h0
      go_enter Try.func43, Try.ntmps43
      go_wp2_with fail
      rw [← hW1]
      refine hpart.mono ?_
      rintro e' w2 ⟨rfl, hb2⟩
      have hx2 : ∀ o, w2.cell? ⟨W.heap.size, o, none⟩ = (#[.int .i64 m.c, .int .i64 m.d, .int .i64 m.s, .int .i64 m.e, .int .i64 m.l, .slice a t.length c] : Array Value)[o]? := fun o => by rw [(bcell hb2).1 _ _ hz01, hc01]
      clear hc01 hh01
      have HW1 := Lib.hid hW1; clear hW1
      go_wp2_with fail
      refine (l18Rows_any m _ _ t cuts k d n _ Hf.out hk hd Hn.out.2 (hV1.below hb2) (hC1.below hb2)).mono ?_
      rintro e' w3 ⟨v3, rfl, hF, hb3⟩
      rw [HR.out] at hF
      have hV3 := hF.v2
      obtain ⟨a3, c3, rfl, hl3⟩ := hV3.form
      have hBf := hB01.trans ((hb2.trans (hb3.mono hb2.size)).mono (by omega))
      have hzf := hBf.size
      clear hx2
      obtain ⟨B, hBs⟩ : ∃ B, B = w3.heap.size := ⟨_, rfl⟩
      have hown0 := own_lit0 w3 B 2 1 (by omega)
      have hBle : w3.heap.size ≤ B := by omega
      have hBge : B ≤ w3.heap.size := by omega
      clear hBs
      go_wp2_with fail
      refine (l18Number_any _ _ _ hV3 Hsm.out hR6).mono ?_
      rintro e' w4 ⟨rfl, rfl⟩
      generalize ((prodTo R R.length : Nat) : Int) = pr at *
      go_wp2_with fail
      go_loopw [12, 13] (fun ro i wr => ∃ k : Nat, k ≤ R.length ∧ i = .int .i64 k ∧ wr.ownsRow B 2 1 ro k (((List.range k).map fun j => geti (getl R j) 0).map (Value.int .i64)) ∧ Below B w3 wr) (fun _ i _ => R.length - (intOf i).toNat)
      case atStart => exact ⟨0, Nat.zero_le _, rfl, hown0, (Below.refl _ _).alloc (by omega) _⟩
      case round =>
        obtain ⟨k, hk, rfl, hown, hB⟩ := hrel
        have hzr := hB.size
        by_cases hkk : k < R.length
        · obtain ⟨b1, off1, a1, c1, rfl, _, hc1, hr1⟩ := (hV3.below (hB.mono hBle)).cell hkk
          have hl1 := hr1.len
          unfold maxLen at hl1
          have hp1 : 0 < (getl R k).length := by have := Hpos.out k hkk; omega
          obtain ⟨b2, off2, rfl, _, hc2⟩ := hr1.cell hp1
          rw [Nat.add_zero] at hc2
          go_wp2_with (at_builtin; refine wp_app1 _ rfl _ _ 43 rfl B 2 (.int .i64 0) 8 Try.underlying43 inf_int rfl _ _ _ rfl hown (.int .i64 (geti (getl R k) 0)) _ rfl rfl (by omega) (by omega) (by omega) ?_; intro v1 w1 hown1 hgrow1 hblk1 hB1)
          go_roundw
          case rel => exact ⟨k + 1, by omega, by go_num, by rw [List.range_succ, List.map_append, List.map_append]; exact hown1, hB.trans hB1⟩
          case measure => simp [intOf]; omega
        · obtain rfl : k = R.length := by omega
          go_wp2_with fail
          go_ret2
          exact ⟨_, rfl, (own_F1 hown).mono (by omega), hBf.trans (hB.mono (by omega))⟩
  · have hfin : firstReasAns m t cuts key door = ([], reasC m t cuts key door) := by unfold firstReasAns; rw [if_pos hp]
    have e1 : (reasC m t cuts key door != 0) = true := by simp [hp]
    rw [hfin]
    have Hp := Lib.hid hp; clear hp hfin
    generalize reasC m t cuts key door = pc at *
    go_enter Try.func43, Try.ntmps43
    go_wp2_with fail
    rw [← hW1]
    refine hpart.mono ?_
    rintro e' w2 ⟨rfl, hb2⟩
    clear hc01 hh01
    go_wp2_with fail
    go_ret2
    exact ⟨_, rfl, F1.empty, hB01.trans (hb2.mono (by omega))⟩
end Go.Proofs.Ytcdgechaehljgaa
