/- The openers of a lock, as the reference finds them. No conditions. -/
import Derived.Test.YtmfgdoflddhngaaGreatOpenrs
import Derived.Test.YtmfgdoflddhngaaGreatMRefFirst
import Derived.Test.YtmfgdoflddhngaaGreatMDraw14
namespace Go.Proofs.YtmfgdoflddhngaaGreat
open Go.RowKit
set_option linter.unusedVariables false
set_option linter.unusedSimpArgs false

theorem run_append_zero {P : Program} {w : World} (base : Nat) (t ty e : TypeId) (i : TypeInfo) (size : Nat) (ht : P.underlying t = some (.slice e)) (hi : P.info? e = some i)
    (v : Value) (n : Nat) (xs : List Value) (hown : w.ownsRow base e size v n xs) (ad : Option Addr) (c : Nat) :
    (Builtin.append_ #[t, t] ty #[v, .slice ad 0 c]).run P w = .ok v w := by
  rcases hown.2 with ⟨rfl, rfl⟩ | ⟨g, cap, cur, rfl, _, _, hnc, _⟩
  · cases ad <;> simp [Builtin.append_, run_underlying ht, sizeOf, typeInfo, hi, Builtin.lenOf, Builtin.firstCells, loadCells, loadCellsFrom]
  · cases ad <;> simp [Builtin.append_, run_underlying ht, sizeOf, typeInfo, hi, Builtin.lenOf, Builtin.firstCells, loadCells, loadCellsFrom, hnc, storeCells]
/-- Nothing is appended. -/
theorem step_append_zero {P : Program} {w : World} {ops : Array Oper} {o : Oper} {a : Act} {K : Act → World → Prop} {Q : Exit → Act → World → Prop} {E : Prop} (hg : o.guard = none) (s x : Operand) (t : TypeId)
    (ho : o.op = .call { callee := .builtin .append, args := #[s, x], argTypes := #[t, t] })
    (base : Nat) (e : TypeId) (i : TypeInfo) (size : Nat) (ht : P.underlying t = some (.slice e)) (hi : P.info? e = some i)
    (v : Value) (n : Nat) (xs : List Value) (hs : a.eval s = v) (hown : w.ownsRow base e size v n xs) (ad : Option Addr) (c : Nat) (hx : a.eval x = .slice ad 0 c)
    (h : K (a.put o.dst v) w) : if Region.wanted o (yielded ops a.tmps) = true then Oper.wp P o a w K Q else E := by
  have hw : Region.wanted o (yielded ops a.tmps) = true := by simp [Region.wanted, hg]
  rw [if_pos hw]
  have hrun := run_append_zero (P := P) (w := w) base t o.type e i size ht hi v n xs hown ad c
  unfold Oper.wp
  simp [execOp, ho, resolve, invoke, builtin, hs, hx, hrun, Result.andThen]
  exact h

theorem own_news {w : World} {B : Nat} {e : TypeId} {g n c : Nat} {xs : List Value} (h : w.ownsRow B e 1 (.slice (some ⟨g, 0, none⟩) n c) n xs) : ∀ j u, xs[j]? = some u → w.cell? ((⟨g, 0, none⟩ : Addr).add j) = some u := by
  intro j u hj
  have hl := h.1
  have hjn : j < n * 1 := by
    have := (List.getElem?_eq_some_iff.1 hj).1
    omega
  have := h.cellAt j hjn
  unfold Addr.add
  split
  · rename_i e; subst e; rw [this, hj]
  · simp only [Nat.zero_add]; rw [this, hj]
theorem RowVs.one {S : Nat → Prop} {w : World} {vs : List Value} {ls : List (List Int)} (h : RowVs S w vs ls) : ∀ u ∈ vs, u.oneCell' = true := by
  intro u hu
  obtain ⟨k, hk, e⟩ := List.getElem_of_mem hu
  obtain ⟨ev, h1, h2⟩ := h.2 k (by rw [← h.1]; exact hk)
  obtain ⟨a, c, rfl, _⟩ := h2.form
  rw [List.getElem?_eq_getElem hk, e] at h1
  cases h1
  rfl
theorem RowVs.app {S : Nat → Prop} {w : World} {vs vs' : List Value} {ls ls' : List (List Int)} (h : RowVs S w vs ls) (h' : RowVs S w vs' ls') : RowVs S w (vs ++ vs') (ls ++ ls') := by
  refine ⟨by simp [h.1, h'.1], fun k hk => ?_⟩
  have e1 := h.1
  have e2 := h'.1
  by_cases hkl : k < ls.length
  · obtain ⟨ev, h1, h2⟩ := h.2 k hkl
    exact ⟨ev, by rw [List.getElem?_append_left (by omega)]; exact h1, by rw [show getl (ls ++ ls') k = getl ls k from by simp [getl, List.getElem?_append_left hkl]]; exact h2⟩
  · obtain ⟨ev, h1, h2⟩ := h'.2 (k - ls.length) (by simp at hk; omega)
    refine ⟨ev, by rw [List.getElem?_append_right (by omega), e1]; exact h1, ?_⟩
    have e : getl (ls ++ ls') k = getl ls' (k - ls.length) := by
      unfold getl
      rw [List.getD_eq_getElem?_getD, List.getD_eq_getElem?_getD, List.getElem?_append_right (by omega)]
    rw [e]; exact h2
def OpnPost (S : Nat → Prop) (W : World) (ks : List (List Int)) (e' : Ending) (w' : World) : Prop :=
  ∃ v' vs, e' = .returned v' ∧ w'.ownsRow W.heap.size 46 1 v' ks.length vs ∧ RowVs (fun b => S b ∨ W.heap.size ≤ b) w' vs ks ∧ Below W.heap.size W w'

def opsTo (m : Mk) (sets : List (List Int)) (rem : Nat) (l : List Int) (x : Nat) : List (List Int) := ((getl sets l.length).take x).flatMap fun y => genS m sets rem (l ++ [y])
theorem opsTo_succ (m : Mk) (sets : List (List Int)) (rem : Nat) (l : List Int) {x : Nat} (h : x < (getl sets l.length).length) : opsTo m sets rem l (x + 1) = opsTo m sets rem l x ++ genS m sets rem (l ++ [geti (getl sets l.length) x]) := by
  unfold opsTo; rw [take_geti h, List.flatMap_append]; simp
theorem opsTo_len {m : Mk} {sets : List (List Int)} (h8 : ∀ i, (getl sets i).length ≤ 8) (rem : Nat) (l : List Int) : ∀ x, x ≤ (getl sets l.length).length → (opsTo m sets rem l x).length ≤ x * 8 ^ rem
  | 0, _ => by simp [opsTo]
  | x + 1, h => by
    rw [opsTo_succ m sets rem l h, List.length_append]
    have := opsTo_len (m := m) h8 rem l x (by omega)
    have := genS_length (m := m) h8 rem (l ++ [geti (getl sets l.length) x])
    rw [Nat.succ_mul]; omega
theorem RowVs.chg {S : Nat → Prop} {F : Nat → Prop} {w w' : World} {vs : List Value} {ls : List (List Int)} (h : RowVs S w vs ls) (hc : Chg F w w') (hs : ∀ b, S b → ¬ F b) : RowVs S w' vs ls := h.keep (hc.keep hs)
theorem pow8 {rem : Nat} (h : rem ≤ 6) : 8 ^ rem ≤ 262144 := Nat.le_trans (Nat.pow_le_pow_right (by decide) h) (by decide)
theorem RowVs.far2 {C : Nat → Prop} {w w1 : World} {ou v1 : Value} {vs : List Value} {ls : List (List Int)} (h : RowVs (fun b => ou.ownBlock ≠ some b ∧ C b) w vs ls) (hg : w.grownBy w1 ou.ownBlock) (hblk : v1.ownBlock = ou.ownBlock ∨ ∃ g, v1.ownBlock = some g ∧ w.heap.size ≤ g) : RowVs (fun b => v1.ownBlock ≠ some b ∧ C b) w1 vs ls :=
  ⟨h.1, fun k hk => by
    obtain ⟨ev, h1, h2⟩ := h.2 k hk
    refine ⟨ev, h1, h2.mono (fun b h3 h4 => ⟨fun e => ?_, h3.2⟩) (grow_keep hg fun g hgg hS => hS.1 hgg)⟩
    rcases hblk with e1 | ⟨g, e1, hge⟩
    · exact h3.1 (e1.symm.trans e)
    · rw [e] at e1; cases e1; omega⟩
section
variable {b0 b1 b2 o2 : Nat} {c0 c1 c2 c3 c4 c5 c6 : Value} {F : Nat → Prop} {wr w w' : World}
theorem ob_at (hne : ¬ F b0 ∧ ¬ F b1 ∧ ¬ F b2) (h : wr.cell? ⟨b0, 0, none⟩ = some c0 ∧ wr.cell? ⟨b0, 1, none⟩ = some c1 ∧ wr.cell? ⟨b0, 2, none⟩ = some c2 ∧ wr.cell? ⟨b0, 3, none⟩ = some c3 ∧ wr.cell? ⟨b0, 4, none⟩ = some c4 ∧ wr.cell? ⟨b1, 0, none⟩ = some c5 ∧ wr.cell? ⟨b2, o2, none⟩ = some c6) (hc : Chg F wr w') :
    w'.cell? ⟨b0, 0, none⟩ = some c0 ∧ w'.cell? ⟨b0, 1, none⟩ = some c1 ∧ w'.cell? ⟨b0, 2, none⟩ = some c2 ∧ w'.cell? ⟨b0, 3, none⟩ = some c3 ∧ w'.cell? ⟨b0, 4, none⟩ = some c4 ∧ w'.cell? ⟨b1, 0, none⟩ = some c5 ∧ w'.cell? ⟨b2, o2, none⟩ = some c6 ∧ Chg F wr w' := by
  obtain ⟨h0, h1, h2, h3, h4, h5, h6⟩ := h
  obtain ⟨n0, n1, n2⟩ := hne
  exact ⟨by rw [hc.cell (lt_of_cell h0) n0]; exact h0, by rw [hc.cell (lt_of_cell h0) n0]; exact h1, by rw [hc.cell (lt_of_cell h0) n0]; exact h2, by rw [hc.cell (lt_of_cell h0) n0]; exact h3, by rw [hc.cell (lt_of_cell h0) n0]; exact h4, by rw [hc.cell (lt_of_cell h5) n1]; exact h5, by rw [hc.cell (lt_of_cell h6) n2]; exact h6, hc⟩
theorem ob_chg (h : w.cell? ⟨b0, 0, none⟩ = some c0 ∧ w.cell? ⟨b0, 1, none⟩ = some c1 ∧ w.cell? ⟨b0, 2, none⟩ = some c2 ∧ w.cell? ⟨b0, 3, none⟩ = some c3 ∧ w.cell? ⟨b0, 4, none⟩ = some c4 ∧ w.cell? ⟨b1, 0, none⟩ = some c5 ∧ w.cell? ⟨b2, o2, none⟩ = some c6 ∧ Chg F wr w) : Chg F wr w := h.2.2.2.2.2.2.2
end
theorem range_snocI {l : List Int} {y : Int} (h : ∀ k, k < l.length → 0 ≤ geti l k ∧ geti l k ≤ 7) (hy : 0 ≤ y ∧ y ≤ 7) : ∀ k, k < (l ++ [y]).length → 0 ≤ geti (l ++ [y]) k ∧ geti (l ++ [y]) k ≤ 7 := by
  intro k hk
  by_cases hkl : k < l.length
  · rw [geti_append hkl]; exact h k hkl
  · rw [show k = l.length from by simp at hk; omega, geti_snoc]; exact hy

set_option maxRecDepth 100000 in
set_option maxHeartbeats 4000000 in
theorem l04Openers_any (m : Mk) (hm : m.ok = true) (sets : List (List Int)) (hsl : (sets.length : Int) = m.c) (h8 : ∀ i, (getl sets i).length ≤ 8) (h7 : ∀ i, ∀ x ∈ getl sets i, 0 ≤ x ∧ x ≤ 7) :
    ∀ (rem : Nat) (S S2 : Nat → Prop) (v u : Value) (l : List Int) (most : Int) (W : World), V2 S2 W u sets → V1 S W v l → (l = [] → PV v) → (l.length : Int) + rem = m.c → (∀ k, k < l.length → 0 ≤ geti l k ∧ geti l k ≤ 7) → ((8 ^ rem : Nat) : Int) ≤ most → most ≤ 1000000 →
    Calls Tryz.prog 241 #[.agg #[.int .i64 m.c, .int .i64 m.d, .int .i64 m.s, .int .i64 m.e, .int .i64 m.l], .agg #[u], v, .int .i64 most] W (OpnPost S W (genS m sets rem l)) := by
  have hmk := Mk.ok_iff.1 hm
  obtain ⟨i0, hi, hz0, hz1, hz2⟩ := info_parts inf_int
  obtain ⟨i1, gi, gz0, gz1, gz2⟩ := info_parts inf_ints
  intro rem
  induction rem with
  | zero =>
    intro S S2 v u l most W h2 h hp hlr hrange hm1 hm2
    have hV := h
    have Hrange := Lib.hid hrange; clear hrange
    obtain ⟨a, c, rfl, hmx⟩ := h.form
    obtain ⟨ua, uc, rfl, hux⟩ := h2.form
    clear hp hm h2
    have hlen : l.length ≤ 6 := by omega
    have hl : (l.length : Int) = m.c := by omega
    have e2 : ((l.length : Int) == m.c) = true := by simp [hl]
    have hmo : ¬ most ≤ 0 := by simp at hm1; omega
    have hmo2 : decide (most ≤ 0) = false := decide_eq_false hmo
    have Hl := Lib.hid (And.intro hl hmk); clear hl hlr hmk
    obtain ⟨WA, hWA, hBA, hzA, HZA, hcA, hhA⟩ := box_facts W #[.int .i64 m.c, .int .i64 m.d, .int .i64 m.s, .int .i64 m.e, .int .i64 m.l] 25
    obtain ⟨W1, hW1, hB1, hz1', HZ1, hc1, hh1⟩ := box_facts WA #[.slice ua sets.length uc] 117
    have hB01 : Below W.heap.size W W1 := hBA.trans (hB1.mono (by omega))
    have hz01 : W.heap.size < W1.heap.size := by omega
    have hc01 : ∀ o, W1.cell? ⟨W.heap.size, o, none⟩ = (#[.int .i64 m.c, .int .i64 m.d, .int .i64 m.s, .int .i64 m.e, .int .i64 m.l] : Array Value)[o]? := fun o => by rw [(bcell hB1).1 _ _ hzA, hcA]
    have hV1 := hV.below hB01
    clear hhA hh1
    cases hb : begins m l
    · have hfin : genS m sets 0 l = [] := genS_not hb 0
      rw [hfin]
      have Hb := Lib.hid (And.intro hb hfin); clear hb hfin
      go_enter Tryz.func241, Tryz.ntmps241
      go_wp2_with fail
      rw [← hWA, ← hW1]
      refine (l02Begins_b m _ l _ _ Hb.out.1 hV1 (by omega) Hrange.out).mono ?_; rintro e' w2 ⟨rfl, hb_w2⟩; have hB2 := (Below.refl W1.heap.size W1).trans (hb_w2.mono (Below.refl W1.heap.size W1).size)
      clear hc01 hcA hc1
      go_wp2_with fail
      go_ret
      exact ⟨_, [], rfl, ⟨rfl, .inl ⟨rfl, rfl⟩⟩, RowVs.nil, hB01.trans (hB2.mono (by omega))⟩
    · have Hb := Lib.hid hb; clear hb
      by_cases hk : (kinds l : Int) < m.l
      · have hfin : genS m sets 0 l = [] := by unfold genS; rw [if_neg (by omega)]
        rw [hfin]
        have Hf := Lib.hid hfin; clear hfin
        go_enter Tryz.func241, Tryz.ntmps241
        go_wp2_with fail
        rw [← hWA, ← hW1]
        refine (l02Begins_b m _ l _ _ Hb.out hV1 (by omega) Hrange.out).mono ?_; rintro e' w2 ⟨rfl, hb_w2⟩; have hB2 := (Below.refl W1.heap.size W1).trans (hb_w2.mono (Below.refl W1.heap.size W1).size)
        have hx2 : ∀ o, (w2).cell? ⟨W.heap.size, o, none⟩ = (#[.int .i64 m.c, .int .i64 m.d, .int .i64 m.s, .int .i64 m.e, .int .i64 m.l] : Array Value)[o]? := fun o => by rw [(bcell hB2).1 _ _ hz01, hc01]
        clear hc01 hcA hc1
        go_wp2_with fail
        go_quiet ((go_at_call 254; first | exact quiet_at (l02Kinds_q _ _ _ (V1.drewN (hV1.below hB2))) | exact quiet_at0 (l02Kinds_q _ _ _ (V1.drewN (hV1.below hB2)))))
        go_wp2_with fail
        go_ret
        exact ⟨_, [], rfl, ⟨rfl, .inl ⟨rfl, rfl⟩⟩, RowVs.nil, by repeat' first | refine below_drewN ?_ _ | exact hB01.trans (hB2.mono (by omega))⟩
      · have hfin : genS m sets 0 l = [l] := by unfold genS; rw [if_pos ⟨Hb.out, by omega⟩]
        rw [hfin]
        have Hf := Lib.hid hfin; clear hfin
        have hd : decide ((kinds l : Int) < m.l) = false := decide_eq_false hk
        go_enter Tryz.func241, Tryz.ntmps241
        go_wp2_with fail
        rw [← hWA, ← hW1]
        refine (l02Begins_b m _ l _ _ Hb.out hV1 (by omega) Hrange.out).mono ?_; rintro e' w2 ⟨rfl, hb_w2⟩; have hB2 := (Below.refl W1.heap.size W1).trans (hb_w2.mono (Below.refl W1.heap.size W1).size)
        have hx2 : ∀ o, (w2).cell? ⟨W.heap.size, o, none⟩ = (#[.int .i64 m.c, .int .i64 m.d, .int .i64 m.s, .int .i64 m.e, .int .i64 m.l] : Array Value)[o]? := fun o => by rw [(bcell hB2).1 _ _ hz01, hc01]
        clear hc01 hcA hc1
        go_wp2_with fail
        go_quiet ((go_at_call 254; first | exact quiet_at (l02Kinds_q _ _ _ (V1.drewN (hV1.below hB2))) | exact quiet_at0 (l02Kinds_q _ _ _ (V1.drewN (hV1.below hB2)))))
        go_wp2_with fail
        go_ret
        exact ⟨_, [_], rfl, (World.ownsRow_lit (base := W.heap.size) _ #[.slice a l.length c] 1 (by have := hB2.size; simp; omega) (by unfold maxLen; omega) rfl), RowVs.snoc RowVs.nil (V1.below (w := w2.drewN nq) (V1.drewN ((hV1.below hB2).mono (S' := fun b => S b ∨ W.heap.size ≤ b) (fun b h _ => .inl h) (fun _ _ _ => rfl))) ((Below.refl _ _).alloc (Nat.le_refl _) _)), hB01.trans ((Below.alloc (below_drewN hB2 nq) (show W1.heap.size ≤ w2.heap.size from hB2.size) _).mono (by omega))⟩
  | succ rem ih =>
    intro S S2 v u l most W h2 h hp hlr hrange hm1 hm2
    have hV := h
    have Hrange := Lib.hid hrange; clear hrange
    obtain ⟨a, c, rfl, hmx⟩ := h.form
    obtain ⟨ua, uc, rfl, hux⟩ := h2.form
    have hlen : l.length ≤ 6 ∧ rem ≤ 5 := by omega
    have hl : ¬ (l.length : Int) = m.c := by omega
    have hls : (l.length : Int) < (sets.length : Int) := by omega
    have hls2 : l.length < sets.length := by omega
    have e2 : ((l.length : Int) == m.c) = false := by simp [hl]
    obtain ⟨P, hP⟩ : ∃ P, 8 ^ rem = P := ⟨_, rfl⟩
    have hP0 : 1 ≤ P := by rw [← hP]; exact Nat.one_le_pow _ _ (by decide)
    have hPs : 8 ^ (rem + 1) = 8 * P := by rw [Nat.pow_succ, hP, Nat.mul_comm]
    rw [hPs] at hm1
    have hmo : ¬ most ≤ 0 := by omega
    have hmo2 : decide (most ≤ 0) = false := decide_eq_false hmo
    have IH := Lib.hid ih; clear ih
    have Hp := Lib.hid hp; clear hp
    obtain ⟨WA, hWA, hBA, hzA, HZA, hcA, hhA⟩ := box_facts W #[.int .i64 m.c, .int .i64 m.d, .int .i64 m.s, .int .i64 m.e, .int .i64 m.l] 25
    obtain ⟨W1, hW1, hB1, hz1', HZ1, hc1, hh1⟩ := box_facts WA #[.slice ua sets.length uc] 117
    have hB01 : Below W.heap.size W W1 := hBA.trans (hB1.mono (by omega))
    have hz01 : W.heap.size < W1.heap.size := by omega
    have hz02 : W.heap.size + 1 < W1.heap.size := by have := HZA.out; omega
    have hc01 : ∀ o, W1.cell? ⟨W.heap.size, o, none⟩ = (#[.int .i64 m.c, .int .i64 m.d, .int .i64 m.s, .int .i64 m.e, .int .i64 m.l] : Array Value)[o]? := fun o => by rw [(bcell hB1).1 _ _ hzA, hcA]
    rw [HZA.out] at hc1
    have hV1 := (hV.below hB01).old
    have h21 := (h2.below hB01).old
    clear hhA hh1 hcA h2 h
    cases hb : begins m l
    · have hfin : genS m sets (rem + 1) l = [] := genS_not hb _
      rw [hfin]
      have Hb := Lib.hid (And.intro hb hfin); clear hb hfin hlr hmk
      go_enter Tryz.func241, Tryz.ntmps241
      go_wp2_with fail
      rw [← hWA, ← hW1]
      refine (l02Begins_b m _ l _ _ Hb.out.1 hV1 (by omega) Hrange.out).mono ?_; rintro e' w2 ⟨rfl, hb_w2⟩; have hB2 := (Below.refl W1.heap.size W1).trans (hb_w2.mono (Below.refl W1.heap.size W1).size)
      clear hc01 hc1
      go_wp2_with fail
      go_ret
      exact ⟨_, [], rfl, ⟨rfl, .inl ⟨rfl, rfl⟩⟩, RowVs.nil, hB01.trans (hB2.mono (by omega))⟩
    · have hfin : genS m sets (rem + 1) l = opsTo m sets rem l (getl sets l.length).length := by
        rw [genS, if_pos hb, opsTo, List.take_length]
      rw [hfin]
      have Hf := Lib.hid hfin; clear hfin
      have Hb := Lib.hid hb; clear hb
      have Hlr := Lib.hid hlr; clear hlr
      obtain ⟨s, hs⟩ : ∃ s, getl sets l.length = s := ⟨_, rfl⟩
      have hs8 : s.length ≤ 8 := by rw [← hs]; exact h8 _
      have hs7 : ∀ x ∈ s, 0 ≤ x ∧ x ≤ 7 := by rw [← hs]; exact h7 _
      have hot := opsTo_len (m := m) h8 rem l
      have hos := fun x (hx : x < (getl sets l.length).length) => opsTo_succ m sets rem l hx
      have hgl := fun y => genS_length (m := m) h8 rem (l ++ [y])
      rw [hs] at hot hos ⊢
      rw [hP] at hot hgl
      obtain ⟨b2, off2, a2, c2, rfl, _, hc2, hr2⟩ := h21.cell hls2
      rw [hs] at hc2 hr2
      have HS := Lib.hid (And.intro hot (And.intro hos (And.intro hgl (And.intro hs7 hs)))); clear hot hos hgl hs7 hs
      clear hmk
      have Hm := Lib.hid hm; clear hm
      have Hc := Lib.hid (And.intro h8 h7); clear h8 h7
      go_enter Tryz.func241, Tryz.ntmps241
      go_wp2_with fail
      rw [← hWA, ← hW1]
      refine (l02Begins_b m _ l _ _ Hb.out hV1 (by omega) Hrange.out).mono ?_; rintro e' w2 ⟨rfl, hb_w2⟩; have hB2 := (Below.refl W1.heap.size W1).trans (hb_w2.mono (Below.refl W1.heap.size W1).size)
      have hx2 : ∀ o, (w2).cell? ⟨W.heap.size, o, none⟩ = (#[.int .i64 m.c, .int .i64 m.d, .int .i64 m.s, .int .i64 m.e, .int .i64 m.l] : Array Value)[o]? := fun o => by rw [(bcell hB2).1 _ _ hz01, hc01]
      have hl2 : ∀ o, w2.cell? ⟨W.heap.size + 1, o, none⟩ = (#[.slice (some ⟨b2, off2, none⟩) sets.length uc] : Array Value)[o]? := fun o => by rw [(bcell hB2).1 _ _ hz02, hc1]
      have hs2 := cell_keep hc2 (hB2.block _ (lt_of_cell hc2))
      have hbS : ∀ o1, Below w2.heap.size w2 (w2.alloc o1) := fun o1 => (Below.refl _ _).alloc (Nat.le_refl _) _
      have hlA : ∀ o1, (w2.alloc o1).cell? ⟨W.heap.size + 1, 0, none⟩ = some (.slice (some ⟨b2, off2, none⟩) sets.length uc) := fun o1 => by rw [(bcell (hbS o1)).1 _ _ (by have := hB2.size; omega), hl2]; rfl
      have hsA : ∀ o1, (w2.alloc o1).cell? ⟨b2, off2 + l.length, none⟩ = some (.slice a2 s.length c2) := fun o1 => cell_keep hs2 ((hbS o1).block _ (lt_of_cell hs2))
      have Hc01 := Lib.hid (And.intro hc01 (And.intro hc1 hs2)); clear hc01 hc1
      have HW1 := Lib.hid (And.intro hWA hW1); clear hWA hW1
      go_wp2_with fail
      have Hx2 := Lib.hid (And.intro hx2 (And.intro hl2 (And.intro hlA hsA))); clear hx2 hl2 hlA hsA
      have hown0 := own_lit0 w2 W1.heap.size 46 1 hB2.size
      have hzA2 := hB2.size
      have hbA : Below W1.heap.size W1 (w2.alloc (.cells #[] 46)) := hB2.alloc hzA2 _
      have hFW : ∀ b, b < W1.heap.size → b ≠ w2.heap.size := fun b hb e => by omega
      go_loopw [9, 11] (fun ou ix wr => ∃ (x : Nat) (vs : List Value), x ≤ s.length ∧ ix = .int .i64 (x : Int) ∧ wr.ownsRow W1.heap.size 46 1 ou (opsTo m sets rem l x).length vs ∧ RowVs (fun b => ou.ownBlock ≠ some b ∧ W.heap.size ≤ b) wr vs (opsTo m sets rem l x) ∧ Below W1.heap.size W1 wr) (fun _ ix _ => s.length - (intOf ix).toNat)
      case atStart => exact ⟨0, [], Nat.zero_le _, rfl, hown0, RowVs.nil, hbA⟩
      case round =>
        obtain ⟨x, vs, hx, rfl, hown, hR, hB⟩ := hrel
        have hzr := hB.size
        have hot := HS.out.1 x hx
        obtain ⟨oa, oc, rfl, ho1, ho2⟩ := own_form hown
        have hoF : ∀ b, b < W1.heap.size → ¬ (Value.slice oa (opsTo m sets rem l x).length oc).ownBlock = some b := fun b hb e => by have := (hown.lt b e).1; omega
        have hoL : ∀ b, wr.heap.size ≤ b → ¬ (Value.slice oa (opsTo m sets rem l x).length oc).ownBlock = some b := fun b hb e => by have := (hown.lt b e).2; omega
        have Hown := Lib.hid (And.intro hown hR); clear hown hR
        by_cases hxx : x < s.length
        · have hst := HS.out.2.1 x hxx
          have hy := HS.out.2.2.2.1 _ (geti_mem hxx)
          have hgl := HS.out.2.2.1 (geti s x)
          obtain ⟨y, hye⟩ : ∃ y, geti s x = y := ⟨_, rfl⟩
          rw [hye] at hst hy hgl
          obtain ⟨cn, hcn⟩ : ∃ cn, (genS m sets rem (l ++ [y])).length = cn := ⟨_, rfl⟩
          obtain ⟨cnt, hcnt⟩ : ∃ cnt, (opsTo m sets rem l x).length = cnt := ⟨_, rfl⟩
          rw [hcn] at hgl
          rw [hcnt] at hot hoF hoL ⊢
          have hx7 : x * P ≤ 7 * P := Nat.mul_le_mul_right _ (by omega)
          have hP6 : P ≤ 32768 := by rw [← hP]; exact Nat.le_trans (Nat.pow_le_pow_right (by decide) hlen.2) (by decide)
          have hmost : ((8 ^ rem : Nat) : Int) ≤ most - cnt := by rw [hP]; omega
          have hwm : IntKind.i64.wrap (most - (cnt : Int)) = most - (cnt : Int) := IntWalk.i64_in _ (by omega)
          obtain ⟨bs, offs, rfl, hbs, hcx⟩ := (hr2.below hB).cell hxx
          rw [hye] at hcx
          have hxr : ∀ o, wr.cell? ⟨W.heap.size, o, none⟩ = (#[.int .i64 m.c, .int .i64 m.d, .int .i64 m.s, .int .i64 m.e, .int .i64 m.l] : Array Value)[o]? := fun o => by rw [(bcell hB).1 _ _ hz01, Hc01.out.1]
          have hlr : wr.cell? ⟨W.heap.size + 1, 0, none⟩ = some (.slice (some ⟨b2, off2, none⟩) sets.length uc) := by rw [(bcell hB).1 _ _ hz02, Hc01.out.2.1]; rfl
          have hcell0 := hxr 0
          have hcell1 := hxr 1
          have hcell2 := hxr 2
          have hcell3 := hxr 3
          have hcell4 := hxr 4
          simp at hcell0 hcell1 hcell2 hcell3 hcell4
          have Hxr := Lib.hid hxr; clear hxr
          have hne := And.intro (hoF _ hz01) (And.intro (hoF _ hz02) (hoF _ hbs))
          have hAt := And.intro hcell0 (And.intro hcell1 (And.intro hcell2 (And.intro hcell3 (And.intro hcell4 (And.intro hlr hcx)))))
          have hVr := hV1.below hB
          have h2r := h21.below hB
          have hrl := range_snocI Hrange.out hy
          have Hrl := Lib.hid (And.intro hrl (And.intro hP hcn)); clear hrl hcn
          have hxs : (x : Int) < (s.length : Int) := by omega
          have hx0 : (0 : Int) ≤ (x : Int) := by omega
          have hownO := Hown.out.1
          have hRO := Hown.out.2
          rw [hcnt] at hownO hRO
          have HRO := Lib.hid hRO; clear hRO
          have Hst := Lib.hid (And.intro hst hcnt); clear hst hcnt
          by_cases hcz : cn = 0
          · subst hcz
            have hst0 : opsTo m sets rem l (x + 1) = opsTo m sets rem l x := by rw [Hst.out.1, List.eq_nil_of_length_eq_zero Hrl.out.2.2, List.append_nil]
            have Hst0 := Lib.hid hst0; clear hst0
            go_wp2_with fail
            go_region_held3 (fun w' => w'.cell? ⟨W.heap.size, 0, none⟩ = some (.int .i64 m.c) ∧ w'.cell? ⟨W.heap.size, 1, none⟩ = some (.int .i64 m.d) ∧ w'.cell? ⟨W.heap.size, 2, none⟩ = some (.int .i64 m.s) ∧ w'.cell? ⟨W.heap.size, 3, none⟩ = some (.int .i64 m.e) ∧ w'.cell? ⟨W.heap.size, 4, none⟩ = some (.int .i64 m.l) ∧ w'.cell? ⟨W.heap.size + 1, 0, none⟩ = some (.slice (some ⟨b2, off2, none⟩) sets.length uc) ∧ w'.cell? ⟨bs, offs + x, none⟩ = some (.int .i64 y) ∧ Chg (fun b => (Value.slice oa cnt oc).ownBlock = some b) wr w')
              (first | exact ob_at hne hAt (Chg.refl _ _).drew | exact ob_at hne hAt ((ob_chg (by assumption)).then_below (by assumption)) | exact ob_at hne hAt ((ob_chg (by assumption)).alloc _) | exact ob_at hne hAt ((ob_chg (by assumption)).grown hgrow (fun k hk => .inr (own_lo hown1 (Nat.le_refl _) k hk))) | exact ob_at hne hAt ((ob_chg (by assumption)).grown hgrow2 (fun k hk => .inl hk)) | assumption)
              (first | (go_at_call 182; refine (l01Own_any _ l _ (hVr.mono (S' := fun b => b < W1.heap.size) (fun _ h _ => h) ((ob_chg (by assumption)).keep hoF)) Hp.out (by omega)).mono ?_; rintro e' w' ⟨v1, rfl, hown0, hb⟩; have hzz := Nat.le_trans (ob_chg (by assumption)).size hb.size; have hown1 := own_base hown0 (ob_chg (by assumption)).size; clear hown0; have hB1w : Below wr.heap.size wr w' := (by refine Below.trans ?_ (hb.mono ?_) <;> first | go_grown | (simp; done))) | (refine step_append_lies _ (by rfl) _ _ _ (by rfl) wr.heap.size 2 i0 _ 1 8 Tryz.underlying46 hi hz0 hz1 hz2 rfl (by omega) _ l.length _ (by rfl) (hown1.alloc _) ⟨_, 0, none⟩ 1 1 [.int .i64 y] (by rfl) (by rfl) (World.news_of_block (heap_alloc_new _ _)) (by simp [Value.oneCell']) (by omega) (by unfold maxLen; omega) (by omega) (by simp; omega) _ rfl ?_; intro gg cap w1 hown2 hgrow hat hlt; have hB2w : Below wr.heap.size wr w1 := (hB1w.alloc hB1w.size _).grown hgrow (by have := hB1w.size; simp; omega) (own_lo hown1 (Nat.le_refl _))) | (refine step_append_lies _ (by rfl) _ _ _ (by rfl) wr.heap.size 2 i0 _ 1 8 Tryz.underlying46 hi hz0 hz1 hz2 rfl (by omega) _ l.length _ (by rfl) hown1 ⟨_, 0, none⟩ 1 1 [.int .i64 y] (by rfl) (by rfl) (news_old hb) (by simp [Value.oneCell']) (by omega) (by unfold maxLen; omega) (by omega) (by omega) _ rfl ?_; intro gg cap w1 hown2 hgrow hat hlt; have hB2w : Below wr.heap.size wr w1 := hB1w.grown hgrow hB1w.size (own_lo hown1 (Nat.le_refl _))) | (go_at_call 241; refine (IH.out (fun b => wr.heap.size ≤ b) (fun b => b < W1.heap.size) _ _ (l ++ [y]) _ _ (h2r.mono (fun _ h _ => h) ((ob_chg (by assumption)).keep hoF)) (own_V1B hown2 (by simp)) (fun h => by simp at h) (by have := Hlr.out; simp; omega) Hrl.out.1 hmost (by omega)).mono ?_; rintro e' wq ⟨v3, vs3, rfl, hown3, hR3, hbq⟩; have hcn3 := Hrl.out.2.2; rw [hcn3] at hown3; clear hcn3; obtain ⟨a3, c3, rfl, h3c, h3m⟩ := own_form hown3; have hB3w : Below wr.heap.size wr wq := hB2w.trans (hbq.mono hB2w.size); have hownQ := own_keep hownO hB3w) | (refine step_append_zero (by rfl) _ _ _ (by rfl) W1.heap.size 46 i1 1 Tryz.underlying26 gi _ cnt vs (by rfl) hownQ a3 c3 (by rfl) ?_)) 
            all_goals
              have Hfin := Lib.hid (And.intro hownQ hB3w); clear hownQ hown3 hR3 hownO hVr h2r hAt hne
              go_wp2_with fail
              go_roundw
              case rel => exact ⟨x + 1, vs, by omega, by go_num, by rw [Hst0.out, Hst.out.2]; exact Hfin.out.1, by rw [Hst0.out]; exact HRO.out.below Hfin.out.2, hB.trans (Hfin.out.2.mono hzr)⟩
              case measure => simp [intOf]; omega
          · skip
            go_wp2_with fail
            go_region_held3 (fun w' => w'.cell? ⟨W.heap.size, 0, none⟩ = some (.int .i64 m.c) ∧ w'.cell? ⟨W.heap.size, 1, none⟩ = some (.int .i64 m.d) ∧ w'.cell? ⟨W.heap.size, 2, none⟩ = some (.int .i64 m.s) ∧ w'.cell? ⟨W.heap.size, 3, none⟩ = some (.int .i64 m.e) ∧ w'.cell? ⟨W.heap.size, 4, none⟩ = some (.int .i64 m.l) ∧ w'.cell? ⟨W.heap.size + 1, 0, none⟩ = some (.slice (some ⟨b2, off2, none⟩) sets.length uc) ∧ w'.cell? ⟨bs, offs + x, none⟩ = some (.int .i64 y) ∧ Chg (fun b => (Value.slice oa cnt oc).ownBlock = some b) wr w')
              (first | exact ob_at hne hAt (Chg.refl _ _).drew | exact ob_at hne hAt ((ob_chg (by assumption)).then_below (by assumption)) | exact ob_at hne hAt ((ob_chg (by assumption)).alloc _) | exact ob_at hne hAt ((ob_chg (by assumption)).grown hgrow (fun k hk => .inr (own_lo hown1 (Nat.le_refl _) k hk))) | exact ob_at hne hAt ((ob_chg (by assumption)).grown hgrow2 (fun k hk => .inl hk)) | assumption)
              (first | (go_at_call 182; refine (l01Own_any _ l _ (hVr.mono (S' := fun b => b < W1.heap.size) (fun _ h _ => h) ((ob_chg (by assumption)).keep hoF)) Hp.out (by omega)).mono ?_; rintro e' w' ⟨v1, rfl, hown0, hb⟩; have hzz := Nat.le_trans (ob_chg (by assumption)).size hb.size; have hown1 := own_base hown0 (ob_chg (by assumption)).size; clear hown0; have hB1w : Below wr.heap.size wr w' := (by refine Below.trans ?_ (hb.mono ?_) <;> first | go_grown | (simp; done))) | (refine step_append_lies _ (by rfl) _ _ _ (by rfl) wr.heap.size 2 i0 _ 1 8 Tryz.underlying46 hi hz0 hz1 hz2 rfl (by omega) _ l.length _ (by rfl) (hown1.alloc _) ⟨_, 0, none⟩ 1 1 [.int .i64 y] (by rfl) (by rfl) (World.news_of_block (heap_alloc_new _ _)) (by simp [Value.oneCell']) (by omega) (by unfold maxLen; omega) (by omega) (by simp; omega) _ rfl ?_; intro gg cap w1 hown2 hgrow hat hlt; have hB2w : Below wr.heap.size wr w1 := (hB1w.alloc hB1w.size _).grown hgrow (by have := hB1w.size; simp; omega) (own_lo hown1 (Nat.le_refl _))) | (refine step_append_lies _ (by rfl) _ _ _ (by rfl) wr.heap.size 2 i0 _ 1 8 Tryz.underlying46 hi hz0 hz1 hz2 rfl (by omega) _ l.length _ (by rfl) hown1 ⟨_, 0, none⟩ 1 1 [.int .i64 y] (by rfl) (by rfl) (news_old hb) (by simp [Value.oneCell']) (by omega) (by unfold maxLen; omega) (by omega) (by omega) _ rfl ?_; intro gg cap w1 hown2 hgrow hat hlt; have hB2w : Below wr.heap.size wr w1 := hB1w.grown hgrow hB1w.size (own_lo hown1 (Nat.le_refl _))) | (go_at_call 241; refine (IH.out (fun b => wr.heap.size ≤ b) (fun b => b < W1.heap.size) _ _ (l ++ [y]) _ _ (h2r.mono (fun _ h _ => h) ((ob_chg (by assumption)).keep hoF)) (own_V1B hown2 (by simp)) (fun h => by simp at h) (by have := Hlr.out; simp; omega) Hrl.out.1 hmost (by omega)).mono ?_; rintro e' wq ⟨v3, vs3, rfl, hown3, hR3, hbq⟩; have hcn3 := Hrl.out.2.2; rw [hcn3] at hown3; clear hcn3; obtain ⟨a3, c3, rfl, h3c, h3m⟩ := own_form hown3; have hB3w : Below wr.heap.size wr wq := hB2w.trans (hbq.mono hB2w.size); have hownQ := own_keep hownO hB3w) | (obtain ⟨g3, c4, e3, _, _⟩ := own_some hown3 (by omega); cases e3; refine step_append_lies _ (by rfl) _ _ _ (by rfl) W1.heap.size 46 i1 _ 1 24 Tryz.underlying26 gi gz0 gz1 gz2 rfl (by omega) _ cnt _ (by rfl) hownQ ⟨g3, 0, none⟩ cn _ vs3 (by rfl) hown3.1 (own_news hown3) (RowVs.one hR3) (by omega) (by unfold maxLen; omega) (by omega) (by have := hB3w.size; omega) _ rfl ?_; intro gg2 cap2 wz hownZ hgrow2 hat2 hlt2)) 
            all_goals
              have hz2w := hB2w.size
              have hRq := RowVs.app (HRO.out.below hB3w) (hR3.mono (S' := fun b => (Value.slice oa cnt oc).ownBlock ≠ some b ∧ W.heap.size ≤ b) (fun b h _ => ⟨hoL b (by rcases h with h | h <;> omega), by rcases h with h | h <;> omega⟩))
              have hRz := RowVs.far2 (v1 := .slice (some ⟨gg2, 0, none⟩) (cnt + cn) cap2) hRq hgrow2 (by rcases hat2 with e | e; exact .inl e.symm; exact .inr ⟨gg2, rfl, Nat.le_of_eq e.symm⟩)
              have hBz : Below W1.heap.size W1 wz := (hB.trans (hB3w.mono hzr)).grown hgrow2 (by have := hB3w.size; omega) (own_lo hownQ (Nat.le_refl _))
              have Hfin := Lib.hid (And.intro hownZ (And.intro hRz hBz)); clear hownQ hown3 hR3 hownO hVr h2r hAt hne hownZ hRz hRq hBz
              go_wp2_with fail
              go_roundw
              case rel => exact ⟨x + 1, vs ++ vs3, by omega, by go_num, by rw [Hst.out.1, List.length_append, Hst.out.2, Hrl.out.2.2]; exact Hfin.out.1, by rw [Hst.out.1]; exact Hfin.out.2.1, Hfin.out.2.2⟩
              case measure => simp [intOf]; omega
        · obtain rfl : x = s.length := by omega
          go_wp2_with fail
          go_ret
          exact ⟨_, vs, rfl, own_base Hown.out.1 (by omega), Hown.out.2.mono (fun b h _ => .inr h.2), hB01.trans (hB.mono (by omega))⟩
end Go.Proofs.YtmfgdoflddhngaaGreat

namespace Go.Proofs.YtmfgdoflddhngaaGreat
open Go.RowKit
set_option linter.unusedVariables false
set_option linter.unusedSimpArgs false

theorem countP_take {p : List Int → Bool} {list : List (List Int)} {k : Nat} (h : k < list.length) : (list.take (k + 1)).countP p = (list.take k).countP p + if p (getl list k) = true then 1 else 0 := by
  rw [take_getl h, List.countP_append]
  congr 1
  simp [List.countP_cons]
set_option maxRecDepth 100000 in
set_option maxHeartbeats 2000000 in
theorem l14Ghosts_any {S S' : Nat → Prop} (m : Mk) (hm : m.ok = true) (sets : List (List Int)) (hsl : (sets.length : Int) = m.c) (hok : SetsOk m sets) (u v : Value) (cuts : List (List Int)) (W : World) (h2 : V2 S W u sets) (hc : V2 S' W v cuts) :
    Calls Tryz.prog 137 #[.agg #[.int .i64 m.c, .int .i64 m.d, .int .i64 m.s, .int .i64 m.e, .int .i64 m.l], .agg #[u], v] W fun e' w' => ∃ a c, e' = .returned (.slice a (ghostsN m sets cuts) c) ∧ Below W.heap.size W w' := by
  have hmk := Mk.ok_iff.1 hm
  have hkl := keysOf_length hm
  have h8 := set_len hok (by omega)
  have h7 : ∀ i, ∀ x ∈ getl sets i, 0 ≤ x ∧ x ≤ 7 := fun i x hx => by have := (hok i).2 x hx; omega
  have hop := l04Openers_any m hm sets hsl h8 h7 m.c.toNat (fun _ => False) (fun _ => True) (.slice none 0 0)
  obtain ⟨ua, uc, rfl, hux⟩ := h2.form
  obtain ⟨a', c', rfl, hmx'⟩ := hc.form
  obtain ⟨list, hlist⟩ : ∃ x, (keysOf m).filter (opensB sets) = x := ⟨_, rfl⟩
  have hll : list.length ≤ 262144 := by rw [← hlist]; exact Nat.le_trans (List.length_filter_le _ _) hkl
  have hgs : genS m sets m.c.toNat [] = list := by rw [genS_all hok, hlist]
  have hgn : ghostsN m sets cuts = list.countP fun k => !hasL cuts k := by unfold ghostsN; rw [hlist]
  obtain ⟨N, hN⟩ : ∃ N, ghostsN m sets cuts = N := ⟨_, rfl⟩
  rw [hN] at hgn ⊢
  have HN := Lib.hid hgn
  clear hN
  have hcm : ((m.c.toNat : Nat) : Int) = m.c := by omega
  have hp8 : ((8 ^ m.c.toNat : Nat) : Int) ≤ 1000000 := by have := pow8 (rem := m.c.toNat) (by omega); omega
  have Hop := Lib.hid (And.intro hop (And.intro hgs (And.intro hcm hp8))); clear hop hgs hcm hp8
  have Hm := Lib.hid (And.intro hm (And.intro hmk (And.intro hlist (And.intro h8 (And.intro h7 hok))))); clear hm hmk hlist h8 h7 hok hkl hgn hsl
  obtain ⟨WA, hWA, hBA, hzA, HZA, hcA, hhA⟩ := box_facts W #[.int .i64 m.c, .int .i64 m.d, .int .i64 m.s, .int .i64 m.e, .int .i64 m.l] 25
  obtain ⟨W1, hW1, hB1, hz1', HZ1, hc1, hh1⟩ := box_facts WA #[.slice ua sets.length uc] 117
  have hB01 : Below W.heap.size W W1 := hBA.trans (hB1.mono (by omega))
  have hC1 := (hc.below hB01).old
  have h21 := (h2.below hB01).any
  clear hhA hh1 hcA hc1 hc h2
  go_enter Tryz.func137, Tryz.ntmps137
  go_wp2_with fail
  rw [← hWA, ← hW1]
  refine (Hop.out.1 _ [] _ W1 h21 ⟨none, 0, rfl, Nat.le_refl _, Nat.zero_le _, fun k hk => by simp at hk⟩ (fun _ => .inl rfl) (by have := Hop.out.2.2.1; simp; omega) (fun k hk => by simp at hk) Hop.out.2.2.2 (by omega)).mono ?_
  rintro e' wL ⟨lv, lvs, rfl, hlo, hlR, hbL⟩
  rw [Hop.out.2.1] at hlo hlR
  have hLV := (own_V2 hlo (hlR.mono (fun _ _ _ => trivial))).old
  obtain ⟨la, lc, rfl, hlm⟩ := hLV.form
  have hCL := (hC1.below hbL).any
  have hown0 := own_lit0 wL wL.heap.size 46 1 (Nat.le_refl _)
  clear hlo hlR
  have HW := Lib.hid (And.intro hWA hW1); clear hWA hW1
  have hbA : Below wL.heap.size wL (wL.alloc (.cells #[] 46)) := (Below.refl _ _).alloc (Nat.le_refl _) _
  go_wp2_with fail
  go_loopw [8, 9] (fun ou ix wr => ∃ (k : Nat) (vs : List Value), k ≤ list.length ∧ ix = .int .i64 (k : Int) ∧ wr.ownsRow wL.heap.size 46 1 ou ((list.take k).countP fun k => !hasL cuts k) vs ∧ Below wL.heap.size wL wr) (fun _ ix _ => list.length - (intOf ix).toNat)
  case atStart => exact ⟨0, [], Nat.zero_le _, rfl, hown0, hbA⟩
  case round =>
    obtain ⟨k, vs, hk, rfl, hown, hB⟩ := hrel
    have hzr := hB.size
    have hzL := hbL.size
    have hcp : ((list.take k).countP fun k => !hasL cuts k) ≤ 262144 := Nat.le_trans List.countP_le_length (by rw [List.length_take]; omega)
    obtain ⟨cnt, hcnt⟩ : ∃ cnt, ((list.take k).countP fun k => !hasL cuts k) = cnt := ⟨_, rfl⟩
    rw [hcnt] at hown hcp
    by_cases hkk : k < list.length
    · have hst := countP_take (p := fun k => !hasL cuts k) hkk
      rw [hcnt] at hst
      obtain ⟨b1, off1, a1, c1, rfl, _, hc1, hr1⟩ := (hLV.below hB).cell hkk
      cases hh : hasL cuts (getl list k)
      · rw [if_pos (by rw [hh]; rfl)] at hst
        have Hst := Lib.hid (And.intro hst (And.intro hh hcnt)); clear hst hh hcnt
        have Hown := Lib.hid hown; clear hown
        go_wp2_with fail
        refine (l14Has_b _ _ cuts _ _ _ Hst.out.2.1 (hCL.below hB) hr1).mono ?_
        rintro e' w6 ⟨rfl, nq, hw6⟩
        have hb6 : Below wr.heap.size wr w6 := by rw [hw6]; exact below_drewN (Below.refl _ _) _
        clear hw6
        have hown6 := own_keep Hown.out hb6
        have hc6 := cell_keep hc1 (hb6.block _ (lt_of_cell hc1))
        have hB6 := hB.trans (hb6.mono hzr)
        have hz6 := hB6.size
        go_wp2_with ((at_builtin; refine wp_app1 _ rfl _ _ 26 rfl wL.heap.size 46 (.slice none 0 0) 24 Tryz.underlying26 inf_ints rfl _ _ _ rfl hown6 (.slice a1 (getl list k).length c1) _ rfl rfl (by omega) (by omega) (by omega) ?_; intro v1 w1 hown1 hgrow1 hblk1 hB1); have hBN := hB6.trans hB1)
        have Hfin := Lib.hid (And.intro hown1 hBN); clear hown1 hBN hgrow1 hblk1 hB1
        go_roundw
        case rel => exact ⟨k + 1, _, by omega, by go_num, by rw [Hst.out.1]; exact Hfin.out.1, Hfin.out.2⟩
        case measure => simp [intOf]; omega
      · rw [if_neg (by rw [hh]; decide)] at hst
        have Hst := Lib.hid (And.intro hst (And.intro hh hcnt)); clear hst hh hcnt
        have Hown := Lib.hid hown; clear hown
        go_wp2_with fail
        refine (l14Has_b _ _ cuts _ _ _ Hst.out.2.1 (hCL.below hB) hr1).mono ?_
        rintro e' w6 ⟨rfl, nq, hw6⟩
        have hb6 : Below wr.heap.size wr w6 := by rw [hw6]; exact below_drewN (Below.refl _ _) _
        clear hw6
        have Hfin := Lib.hid (And.intro (own_keep Hown.out hb6) (hB.trans (hb6.mono hzr)))
        go_wp2_with fail
        go_roundw
        case rel => exact ⟨k + 1, vs, by omega, by go_num, by rw [Hst.out.1]; exact Hfin.out.1, Hfin.out.2⟩
        case measure => simp [intOf]; omega
    · obtain rfl : k = list.length := by omega
      rw [List.take_length, ← HN.out] at hcnt
      subst hcnt
      obtain ⟨oa, oc, rfl, ho1, ho2⟩ := own_form hown
      have Hown := Lib.hid hown; clear hown
      go_wp2_with fail
      go_ret
      exact ⟨_, _, rfl, hB01.trans ((hbL.trans (hB.mono hzL)).mono (by omega))⟩
end Go.Proofs.YtmfgdoflddhngaaGreat

namespace Go.Proofs.YtmfgdoflddhngaaGreat
open Go.RowKit
set_option linter.unusedVariables false
set_option linter.unusedSimpArgs false

/-- How many ghosts a door has. -/
def doorGh (m : Mk) (t cuts : List (List Int)) (d : Nat) : Nat := ghostsN m (lockR m.c.toNat t cuts d) cuts
def doorGhAns (m : Mk) (t cuts : List (List Int)) (door : Int) : Int × Int :=
  if designC m t cuts ≠ 0 then (0, designC m t cuts) else if inB door 0 (((getl t 0).length : Int) - 1) = false then (0, 2) else ((doorGh m t cuts door.toNat : Nat), 0)
theorem lockR_len (n : Nat) (t cuts : List (List Int)) (d : Nat) : (lockR n t cuts d).length = n := by rw [lockR, hullR_len]
set_option maxRecDepth 100000 in
set_option maxHeartbeats 1000000 in
theorem DoorGhostsR_any {S S' : Nat → Prop} (m : Mk) (u v : Value) (t cuts : List (List Int)) (door : Int) (W : World) (h : V2 S W u t) (hc : V2 S' W v cuts) :
    Calls Tryz.prog 50 #[.agg #[.int .i64 m.c, .int .i64 m.d, .int .i64 m.s, .int .i64 m.e, .int .i64 m.l, u], v, .int .i64 door] W fun e' w' => e' = .returned (.tuple #[.int .i64 (doorGhAns m t cuts door).1, .int .i64 (doorGhAns m t cuts door).2]) ∧ Below W.heap.size W w' := by
  obtain ⟨a, c, rfl, hmx⟩ := h.form
  obtain ⟨a', c', rfl, hmx'⟩ := hc.form
  obtain ⟨W1, hW1, hB01, hz01, HZ01, hc01, hh01⟩ := box_facts W #[.int .i64 m.c, .int .i64 m.d, .int .i64 m.s, .int .i64 m.e, .int .i64 m.l, .slice a t.length c] 28
  have hV1 := (h.below hB01).any
  have hC1 := (hc.below hB01).any
  have hcode := l21Code_any m _ _ t cuts W1 hV1 hC1
  by_cases hp : designC m t cuts = 0
  · rw [hp] at hcode
    have hf := (design_fits hp).1
    have hmc := mc_nat hf.ok
    have hdoors := hf.doors
    have hkl := keysOf_length hf.ok
    have hol := outsOf_length cuts (keysOf m)
    obtain ⟨locks, hlocks⟩ : ∃ x, x = locksTo m.c.toNat t cuts (getl t 0).length := ⟨_, rfl⟩
    obtain ⟨D, hD⟩ : ∃ D, (getl t 0).length = D := ⟨_, rfl⟩
    have hll : locks.length = D := by rw [hlocks, locksTo_len, hD]
    have hrows := hf.rows
    have h0 : inB 0 0 ((t.length : Int) - 1) = true := inB_iff.2 (by omega)
    have Hcode := Lib.hid hcode; clear hcode
    cases hi : inB door 0 (((getl t 0).length : Int) - 1)
    · have hfin : doorGhAns m t cuts door = (0, 2) := by unfold doorGhAns; rw [if_neg (by rw [hp]; decide), if_pos hi]
      rw [hfin]
      have hr : (inB 0 0 ((t.length : Int) - 1) && inB door 0 (((getl t 0).length : Int) - 1)) = false := by rw [hi, h0]; rfl
      have Hr := Lib.hid (And.intro hrows (And.intro hdoors.2 hr)); clear hr hi h0 hrows hdoors hD hlocks hll hkl hol hf hmc hp
      go_enter Tryz.func50, Tryz.ntmps50
      go_wp2_with fail
      rw [← hW1]
      refine Hcode.out.mono ?_
      rintro e' w2 ⟨rfl, hb2⟩
      have hx2 : ∀ o, w2.cell? ⟨W.heap.size, o, none⟩ = (#[.int .i64 m.c, .int .i64 m.d, .int .i64 m.s, .int .i64 m.e, .int .i64 m.l, .slice a t.length c] : Array Value)[o]? := fun o => by rw [(bcell hb2).1 _ _ hz01, hc01]
      have hz2 : W.heap.size < w2.heap.size := by have := hb2.size; omega
      clear hc01 hh01
      go_wp2_with fail
      refine (l15Pair_any m _ t 0 door _ (hV1.below hb2) Hr.out.1 Hr.out.2.1).mono ?_
      rintro e' w3 ⟨rfl, hb3⟩
      rw [Hr.out.2.2]
      have hb23 := hb2.trans (hb3.mono hb2.size)
      have hz3 : W.heap.size < w3.heap.size := by have := hb3.size; omega
      have hx3 : ∀ o, w3.cell? ⟨W.heap.size, o, none⟩ = (#[.int .i64 m.c, .int .i64 m.d, .int .i64 m.s, .int .i64 m.e, .int .i64 m.l, .slice a t.length c] : Array Value)[o]? := fun o => by rw [(bcell hb3).1 _ _ hz2, hx2]
      clear hx2
      go_wp2_with fail
      go_ret2
      exact ⟨rfl, hB01.trans (hb23.mono (by omega))⟩
    · have hin := inB_iff.1 hi
      obtain ⟨d, rfl⟩ : ∃ d : Nat, door = (d : Int) := ⟨door.toNat, by omega⟩
      have hfin : doorGhAns m t cuts (d : Int) = (((doorGh m t cuts d : Nat) : Int), 0) := by unfold doorGhAns; rw [if_neg (by rw [hp]; decide), if_neg (by rw [hi]; decide)]; rfl
      rw [hfin]
      have hr : (inB 0 0 ((t.length : Int) - 1) && inB (d : Int) 0 (((getl t 0).length : Int) - 1)) = true := by rw [hi, h0]; rfl
      have hdd : d < (getl t 0).length := by omega
      have hso := lock_sets (n := m.c.toNat) (d := d) hf hmc
      have hsl : (((lockR m.c.toNat t cuts d).length : Nat) : Int) = m.c := by rw [lockR_len]; exact hmc
      have Hf := Lib.hid (And.intro hf (And.intro hmc (And.intro hdd (And.intro hso (And.intro hsl hf.ok))))); clear hso hsl
      obtain ⟨N, hN⟩ : ∃ N, doorGh m t cuts d = N := ⟨_, rfl⟩
      have hN' : ghostsN m (lockR m.c.toNat t cuts d) cuts = N := hN
      rw [hN]
      have Hr := Lib.hid (And.intro hrows (And.intro hdoors.2 (And.intro hr hN'))); clear hN hN' hi h0 hrows hdoors hD hlocks hll hkl hol hf hmc hp hin hdd hfin
      have hr := Hr.out.2.2.1
      go_enter Tryz.func50, Tryz.ntmps50
      go_wp2_with fail
      rw [← hW1]
      refine Hcode.out.mono ?_
      rintro e' w2 ⟨rfl, hb2⟩
      have hx2 : ∀ o, w2.cell? ⟨W.heap.size, o, none⟩ = (#[.int .i64 m.c, .int .i64 m.d, .int .i64 m.s, .int .i64 m.e, .int .i64 m.l, .slice a t.length c] : Array Value)[o]? := fun o => by rw [(bcell hb2).1 _ _ hz01, hc01]
      have hz2 : W.heap.size < w2.heap.size := by have := hb2.size; omega
      clear hc01 hh01
      go_wp2_with fail
      refine (l15Pair_any m _ t 0 (d : Int) _ (hV1.below hb2) Hr.out.1 Hr.out.2.1).mono ?_
      rintro e' w3 ⟨rfl, hb3⟩
      rw [hr]
      have hb23 := hb2.trans (hb3.mono hb2.size)
      have hz3 : W.heap.size < w3.heap.size := by have := hb3.size; omega
      have hx3 : ∀ o, w3.cell? ⟨W.heap.size, o, none⟩ = (#[.int .i64 m.c, .int .i64 m.d, .int .i64 m.s, .int .i64 m.e, .int .i64 m.l, .slice a t.length c] : Array Value)[o]? := fun o => by rw [(bcell hb3).1 _ _ hz2, hx2]
      clear hx2
      go_wp2_with fail
      go_region_held3 (fun w' => (∀ o, w'.cell? ⟨W.heap.size, o, none⟩ = (#[.int .i64 m.c, .int .i64 m.d, .int .i64 m.s, .int .i64 m.e, .int .i64 m.l, .slice a t.length c] : Array Value)[o]?) ∧ Below w3.heap.size w3 w') (first | exact one_keep (by assumption) (by assumption) (by assumption) | exact ⟨hx3, (Below.refl _ _).drew⟩) (first | (go_at_call 138; refine (l15Lock_any (S := fun _ => True) (S' := fun _ => True) m _ _ t cuts d m.c.toNat _ Hf.out.1 Hf.out.2.1 Hf.out.2.2.1 (hV1.below (hb23.trans ((one_below (by assumption)).mono hb23.size))) (hC1.below (hb23.trans ((one_below (by assumption)).mono hb23.size)))).mono ?_; rintro e' wK ⟨kv, rfl, hFK, hb⟩) | (go_at_call 137; refine (l14Ghosts_any (S' := fun _ => True) m Hf.out.2.2.2.2.2 _ Hf.out.2.2.2.2.1 Hf.out.2.2.2.1 _ _ cuts _ hFK.v2.any (hC1.below (hb23.trans ((one_below (by assumption)).mono hb23.size)))).mono ?_; rintro e' w' ⟨ga, gc, rfl, hb⟩; rw [Hr.out.2.2.2]))
      all_goals
        have hBw := one_below (w0 := w3) (by assumption)
        go_wp2_with fail
        go_ret2
        exact ⟨rfl, hB01.trans ((hb23.trans (hBw.mono hb23.size)).mono (by omega))⟩
  · have hfin : doorGhAns m t cuts door = (0, designC m t cuts) := by unfold doorGhAns; rw [if_pos hp]; (try rfl)
    have e1 : (designC m t cuts != 0) = true := by simp [hp]
    have e0 : (designC m t cuts == 0) = false := by simp [hp]
    rw [hfin]
    have Hp := Lib.hid (And.intro hp hfin); clear hp hfin
    generalize designC m t cuts = pc at *
    go_enter Tryz.func50, Tryz.ntmps50
    go_wp2_with fail
    rw [← hW1]
    refine hcode.mono ?_
    rintro e' w2 ⟨rfl, hb2⟩
    clear hc01 hh01
    go_wp2_with fail
    go_ret2
    exact ⟨rfl, hB01.trans (hb2.mono (by omega))⟩
end Go.Proofs.YtmfgdoflddhngaaGreat

namespace Go.Proofs.YtmfgdoflddhngaaGreat
open Go.RowKit
set_option linter.unusedVariables false
set_option linter.unusedSimpArgs false

def tabL (m : Mk) (t cuts : List (List Int)) (k : Nat) : List Int := (List.range k).map fun d => ((doorGh m t cuts d : Nat) : Int)
theorem tabL_len (m : Mk) (t cuts : List (List Int)) (k : Nat) : (tabL m t cuts k).length = k := by simp [tabL]
theorem tabL_succ (m : Mk) (t cuts : List (List Int)) (k : Nat) : tabL m t cuts (k + 1) = tabL m t cuts k ++ [((doorGh m t cuts k : Nat) : Int)] := by
  simp [tabL, List.range_succ]
def ghTabAns (m : Mk) (t cuts : List (List Int)) : List Int × Int :=
  if designC m t cuts ≠ 0 then ([], designC m t cuts) else (tabL m t cuts (getl t 0).length, 0)
theorem ghTabAns_len (m : Mk) (t cuts : List (List Int)) : (ghTabAns m t cuts).1.length ≤ 1048576 := by
  unfold ghTabAns
  split
  · simp
  · rename_i hp
    have := (design_fits (Classical.not_not.1 hp)).1.doors
    show (tabL m t cuts _).length ≤ _
    rw [tabL_len]; omega
theorem F1.nil2 {B : Nat} {w : World} : F1 B w (.slice none 0 0) [] := ⟨0, ⟨none, 0, rfl, Nat.le_refl _, Nat.zero_le _, fun hn => absurd rfl hn⟩, fun hn => absurd rfl hn⟩
section
variable {b0 : Nat} {cs : Array Value} {F : Nat → Prop} {wr w w' : World}
theorem gt_at (hlt : b0 < wr.heap.size) (hne : ¬ F b0) (h : ∀ o, wr.cell? ⟨b0, o, none⟩ = cs[o]?) (hc : Chg F wr w') : (∀ o, w'.cell? ⟨b0, o, none⟩ = cs[o]?) ∧ Chg F wr w' :=
  ⟨fun o => by rw [hc.cell hlt hne, h], hc⟩
theorem gt_chg (h : (∀ o, w.cell? ⟨b0, o, none⟩ = cs[o]?) ∧ Chg F wr w) : Chg F wr w := h.2
end
set_option maxRecDepth 100000 in
set_option maxHeartbeats 2000000 in
theorem GhostTableR_any {S S' : Nat → Prop} (m : Mk) (u v : Value) (t cuts : List (List Int)) (W : World) (h : V2 S W u t) (hc : V2 S' W v cuts) :
    Calls Tryz.prog 37 #[.agg #[.int .i64 m.c, .int .i64 m.d, .int .i64 m.s, .int .i64 m.e, .int .i64 m.l, u], v] W fun e' w' => ∃ v', e' = .returned (.tuple #[v', .int .i64 (ghTabAns m t cuts).2]) ∧ V1 (fun b => b < w'.heap.size) w' v' (ghTabAns m t cuts).1 ∧ Below W.heap.size W w' := by
  obtain ⟨i0, gi, gz0, gz1, gz2⟩ := info_parts inf_int
  obtain ⟨a, c, rfl, hmx⟩ := h.form
  obtain ⟨a', c', rfl, hmx'⟩ := hc.form
  obtain ⟨W1, hW1, hB01, hz01, HZ01, hc01, hh01⟩ := box_facts W #[.int .i64 m.c, .int .i64 m.d, .int .i64 m.s, .int .i64 m.e, .int .i64 m.l, .slice a t.length c] 28
  have hV1 := (h.below hB01).any
  have hC1 := (hc.below hB01).any
  have hcode := l21Code_any m _ _ t cuts W1 hV1 hC1
  by_cases hp : designC m t cuts = 0
  · rw [hp] at hcode
    have hf := (design_fits hp).1
    have hmc := mc_nat hf.ok
    have hdoors := hf.doors
    have hkl := keysOf_length hf.ok
    have hol := outsOf_length cuts (keysOf m)
    obtain ⟨locks, hlocks⟩ : ∃ x, x = locksTo m.c.toNat t cuts (getl t 0).length := ⟨_, rfl⟩
    obtain ⟨D, hD⟩ : ∃ D, (getl t 0).length = D := ⟨_, rfl⟩
    have hll : locks.length = D := by rw [hlocks, locksTo_len, hD]
    have hfin : ghTabAns m t cuts = (tabL m t cuts D, 0) := by unfold ghTabAns; rw [if_neg (by rw [hp]; decide), hD]
    rw [hfin]
    have hrows := hf.rows
    have hV0 := (h.below hB01).old
    have hC0 := (hc.below hB01).old
    obtain ⟨b0, off0, a0, c0, rfl, hb0, hcc0, hr0⟩ := hV0.cell (k := 0) (by omega)
    simp only [Nat.add_zero] at hcc0
    rw [hD] at hcc0 hdoors
    have hso := fun d => lock_sets (n := m.c.toNat) (d := d) hf hmc
    have hsl := fun d => (show (((lockR m.c.toNat t cuts d).length : Nat) : Int) = m.c by rw [lockR_len]; exact hmc)
    have hgl := fun d => ghostsN_le m hf.ok (lockR m.c.toNat t cuts d) cuts
    have Hf := Lib.hid (And.intro hf (And.intro hmc (And.intro hD (And.intro hso (And.intro hsl (And.intro hf.ok hgl)))))); clear hso hsl hf hmc hgl hr0 hol hkl
    have Hp := Lib.hid (And.intro hp (And.intro hfin (And.intro hlocks hll))); clear hp hfin hlocks hll hD
    have Hcode := Lib.hid hcode; clear hcode
    go_enter Tryz.func37, Tryz.ntmps37
    go_wp2_with fail
    rw [← hW1]
    refine Hcode.out.mono ?_
    rintro e' w2 ⟨rfl, hb2⟩
    have hz2 : W.heap.size < w2.heap.size := by have := hb2.size; omega
    have hown0 := own_lit0 w2 w2.heap.size 2 1 (Nat.le_refl _)
    have hbA : ∀ T, Below w2.heap.size w2 (w2.alloc (.cells #[] T)) := fun T => (Below.refl _ _).alloc (Nat.le_refl _) _
    have hccw := cell_keep hcc0 (hb2.block _ (lt_of_cell hcc0))
    have Hc01 := Lib.hid (And.intro hc01 hcc0); clear hc01 hcc0
    clear hh01
    go_wp2_with fail
    go_loopw [7, 8] (fun ou ix wr => ∃ k : Nat, k ≤ D ∧ ix = .int .i64 (k : Int) ∧ wr.ownsRow w2.heap.size 2 1 ou k ((tabL m t cuts k).map (Value.int .i64)) ∧ Below w2.heap.size w2 wr) (fun _ ix _ => D - (intOf ix).toNat)
    case atStart => exact ⟨0, Nat.zero_le _, rfl, hown0, hbA _⟩
    case round =>
      obtain ⟨k, hk, rfl, hown, hB⟩ := hrel
      have hzr := hB.size
      obtain ⟨oa, oc, rfl, ho1, ho2⟩ := own_form hown
      have hoF : ∀ b, b < W1.heap.size → ¬ (Value.slice oa k oc).ownBlock = some b := fun b hb e => by have := (hown.lt b e).1; have := hb2.size; omega
      have hB1 := hb2.trans (hB.mono hb2.size)
      have hxr : ∀ o, wr.cell? ⟨W.heap.size, o, none⟩ = (#[.int .i64 m.c, .int .i64 m.d, .int .i64 m.s, .int .i64 m.e, .int .i64 m.l, .slice (some ⟨b0, off0, none⟩) t.length c] : Array Value)[o]? := fun o => by rw [(bcell hB1).1 _ _ hz01, Hc01.out.1]
      have hcr := cell_keep Hc01.out.2 (hB1.block _ (lt_of_cell Hc01.out.2))
      by_cases hkk : k < D
      · have hst := tabL_succ m t cuts k
        have hgl := Hf.out.2.2.2.2.2.2 k
        obtain ⟨N, hN⟩ : ∃ N, doorGh m t cuts k = N := ⟨_, rfl⟩
        have hN' : ghostsN m (lockR m.c.toNat t cuts k) cuts = N := hN
        rw [hN] at hst
        rw [hN'] at hgl
        have Hst := Lib.hid (And.intro hst (And.intro hN hN')); clear hst hN hN'
        have hVr := hV0.below hB1
        have hCr := hC0.below hB1
        have hzw : W.heap.size < wr.heap.size := by omega
        have hne := hoF _ hz01
        go_wp2_with fail
        go_region_held3 (fun w' => (∀ o, w'.cell? ⟨W.heap.size, o, none⟩ = (#[.int .i64 m.c, .int .i64 m.d, .int .i64 m.s, .int .i64 m.e, .int .i64 m.l, .slice (some ⟨b0, off0, none⟩) t.length c] : Array Value)[o]?) ∧ Chg (fun b => (Value.slice oa k oc).ownBlock = some b) wr w') (first | exact gt_at hzw hne hxr (Chg.refl _ _).drew | exact gt_at hzw hne hxr ((gt_chg (by assumption)).then_below (by assumption)) | exact gt_at hzw hne hxr ((gt_chg (by assumption)).alloc _) | exact gt_at hzw hne hxr ((gt_chg (by assumption)).grown hgrow (fun k hk => .inl hk)) | assumption) (first | (go_at_call 138; refine (l15Lock_any (S := fun b => b < W1.heap.size) (S' := fun b => b < W1.heap.size) m _ _ t cuts k m.c.toNat _ Hf.out.1 Hf.out.2.1 (by rw [Hf.out.2.2.1]; exact hkk) (hVr.mono (fun _ h _ => h) ((gt_chg (by assumption)).keep hoF)) (hCr.mono (fun _ h _ => h) ((gt_chg (by assumption)).keep hoF))).mono ?_; rintro e' wK ⟨kv, rfl, hFK, hb⟩; have hB1w : Below wr.heap.size wr wK := (by refine Below.trans ?_ (hb.mono ?_) <;> first | go_grown | (simp; done))) | (go_at_call 137; refine (l14Ghosts_any (S' := fun b => b < W1.heap.size) m Hf.out.2.2.2.2.2.1 _ (Hf.out.2.2.2.2.1 k) (Hf.out.2.2.2.1 k) _ _ cuts _ hFK.v2.any (hCr.mono (fun _ h _ => h) ((gt_chg (by assumption)).keep hoF))).mono ?_; rintro e' wG ⟨ga, gc, rfl, hb3⟩; rw [Hst.out.2.2]; have hB2w : Below wr.heap.size wr wG := hB1w.trans (hb3.mono hB1w.size); have hownG := own_keep hown hB2w) | (refine step_append_lies _ (by rfl) _ _ _ (by rfl) w2.heap.size 2 i0 _ 1 8 Tryz.underlying46 gi gz0 gz1 gz2 rfl (by omega) _ k _ (by rfl) (hownG.alloc _) ⟨_, 0, none⟩ 1 1 [.int .i64 (N : Int)] (by rfl) (by rfl) (World.news_of_block (heap_alloc_new _ _)) (by simp [Value.oneCell']) (by omega) (by unfold maxLen; omega) (by omega) (by have := hB2w.size; simp; omega) _ rfl ?_; intro gg cap w1 hown2 hgrow hat hlt))
        all_goals
          have hBz : Below w2.heap.size w2 w1 := ((hB.trans (hB2w.mono hzr)).alloc (by have := hB2w.size; omega) _).grown hgrow (by have := hB2w.size; simp; omega) (own_lo hown (Nat.le_refl _))
          have Hfin := Lib.hid (And.intro hown2 hBz); clear hown2 hBz hown hownG
          go_wp2_with fail
          go_roundw
          case rel => exact ⟨k + 1, by omega, by go_num, by rw [Hst.out.1, List.map_append]; exact Hfin.out.1, Hfin.out.2⟩
          case measure => simp [intOf]; omega
      · obtain rfl : k = D := by omega
        have Hown := Lib.hid hown; clear hown
        go_wp2_with fail
        go_ret2
        exact ⟨_, rfl, (own_F1 (own_base (B' := W.heap.size) Hown.out (by omega))).v1.old, hB01.trans (hB1.mono (by omega))⟩
  · have hfin : ghTabAns m t cuts = ([], designC m t cuts) := by unfold ghTabAns; rw [if_pos hp]; (try rfl)
    have e1 : (designC m t cuts != 0) = true := by simp [hp]
    rw [hfin]
    have Hp := Lib.hid (And.intro hp hfin); clear hp hfin
    generalize designC m t cuts = pc at *
    go_enter Tryz.func37, Tryz.ntmps37
    go_wp2_with fail
    rw [← hW1]
    refine hcode.mono ?_
    rintro e' w2 ⟨rfl, hb2⟩
    clear hc01 hh01
    go_wp2_with fail
    go_ret2
    exact ⟨_, rfl, (F1.nil2 (B := 0)).v1.old, hB01.trans (hb2.mono (by omega))⟩
end Go.Proofs.YtmfgdoflddhngaaGreat

namespace Go.Proofs.YtmfgdoflddhngaaGreat
open Go.RowKit
set_option linter.unusedVariables false
set_option linter.unusedSimpArgs false

theorem enters_frees : Enters 294 := fun args w => by kernel_rfl
set_option maxRecDepth 100000 in
theorem frees1_any {S : Nat → Prop} (u : Value) (sets : List (List Int)) (k : Nat) (x : Int) (LB : Nat) (w : World) (h : w.cell? ⟨LB, 0, none⟩ = some u) (h2 : V2 S w u sets) (hk : k < sets.length) :
    Calls Tryz.prog 294 #[.int .i64 (k : Int), .int .i64 x, .pointer (some ⟨LB, 0, none⟩)] w fun e w' => e = .returned (.bool (hasI (getl sets k) x)) ∧ w' = w := by
  obtain ⟨a, c, rfl, hmx⟩ := h2.form
  obtain ⟨b2, off2, a2, c2, rfl, _, hc2, hr2⟩ := h2.cell hk
  have hk0 : (0 : Int) ≤ (k : Int) := by omega
  have hk1 : (k : Int) < (sets.length : Int) := by omega
  go_enter Tryz.func294, Tryz.ntmps294
  go_wp2_with fail
  refine (slContains_any _ (getl sets k) x _ hr2).mono ?_
  rintro e' w' ⟨rfl, rfl⟩
  go_wp2_with fail
  go_ret
  exact ⟨rfl, rfl⟩
theorem frees_any (u : Value) (w : World) :
    Calls Tryz.prog 245 #[.agg #[u]] w fun e w' => e = .returned (.func (.func 294) #[] #[.pointer (some ⟨w.heap.size, 0, none⟩)]) ∧ w' = w.alloc (.cells #[u] 117) := by
  go_enter Tryz.func245, Tryz.ntmps245
  go_wp2_with fail
  go_ret
  exact ⟨rfl, rfl⟩
theorem enters_dg : Enters 143 := fun args w => by kernel_rfl
theorem dg1_any (key : Value) (B : Nat) (n : Nat) (T : TypeId) (w : World) (hn : n ≤ 1000000) (hc : w.heap[B]? = some (.cells #[.int .i64 n] T (0, 0))) :
    Calls Tryz.prog 143 #[key, .pointer (some ⟨B, 0, none⟩)] w fun e w' => e = .returned (.bool true) ∧ w' = w.setCell ⟨B, 0, none⟩ (.int .i64 ((n + 1 : Nat) : Int)) := by
  have hc1 := cell_of_block hc 0
  have hf1 := frozen_of_block hc 0
  simp at hc1
  clear hc
  go_enter Tryz.func143, Tryz.ntmps143
  go_wp2_with fail
  go_ret
  exact ⟨rfl, by go_num⟩
def cgStep (cuts : List (List Int)) (n : Nat) (k : List Int) : Nat × Bool := (if hasL cuts k = true then n else n + 1, true)
theorem cg_run (cuts : List (List Int)) : ∀ (l : List (List Int)) (n : Nat), runL (cgStep cuts) n l = (n + l.countP fun k => !hasL cuts k, true)
  | [], n => by simp [runL]
  | k :: l, n => by
    show (if (cgStep cuts n k).2 then runL (cgStep cuts) (cgStep cuts n k).1 l else cgStep cuts n k) = _
    simp only [cgStep, if_true]
    rw [cg_run cuts l, List.countP_cons]
    cases hasL cuts k <;> simp <;> omega
theorem enters_gh : Enters 246 := fun args w => by kernel_rfl
set_option maxRecDepth 100000 in
set_option maxHeartbeats 1000000 in
theorem eg1_any {S S' : Nat → Prop} (AB VB NB : Nat) (cv v : Value) (cuts : List (List Int)) (key : List Int) (n : Nat) (T : TypeId) (w : World) (h1 : w.cell? ⟨AB, 0, none⟩ = some cv) (h2 : w.cell? ⟨VB, 0, none⟩ = some (.func (.func 143) #[] #[.pointer (some ⟨NB, 0, none⟩)]))
    (h3 : w.heap[NB]? = some (.cells #[.int .i64 n] T (0, 0))) (hne : ¬ AB = NB ∧ ¬ VB = NB) (hcv : V2 S w cv cuts) (hV : V1 S' w v key) (hn : n ≤ 1000000) :
    Calls Tryz.prog 246 #[v, .pointer (some ⟨AB, 0, none⟩), .pointer (some ⟨VB, 0, none⟩)] w fun e w' => e = .returned (.bool true) ∧ w'.heap[NB]? = some (.cells #[.int .i64 ((cgStep cuts n key).1 : Nat)] T (0, 0)) ∧ Chg (fun b => b = NB) w w' := by
  obtain ⟨ka, kc, rfl, hkm⟩ := hV.form
  obtain ⟨ca, cc, rfl, hcm⟩ := hcv.form
  have hen := enters_dg
  unfold Enters at hen
  cases hh : hasL cuts key
  · have hst : (cgStep cuts n key).1 = n + 1 := by unfold cgStep; rw [if_neg (by rw [hh]; decide)]
    rw [hst]
    have Hh := Lib.hid (And.intro hh (And.intro hst h3)); clear hh hst h3
    go_enter Tryz.func246, Tryz.ntmps246
    go_wp2_with fail
    refine (contains_b _ _ cuts key _ _ Hh.out.1 hcv hV).mono ?_
    rintro e' w1 ⟨rfl, hb01⟩
    have h31 := heap_below Hh.out.2.2 hb01 (lt_of_heap Hh.out.2.2)
    have h21 := cell_keep h2 (hb01.block _ (lt_of_cell h2))
    have H31 := Lib.hid h31; clear h31
    go_wp2_with fail
    refine (dg1_any _ NB n T _ hn H31.out).mono ?_
    rintro e' w3 ⟨rfl, hw3⟩
    have hchg : Chg (fun b => b = NB) w1 w3 := by rw [hw3]; exact Chg.setCell (F := fun b => b = NB) (Chg.refl _ _) (p := ⟨NB, 0, none⟩) (.inl rfl) _
    have h33 : w3.heap[NB]? = some (.cells #[.int .i64 ((n + 1 : Nat) : Int)] T (0, 0)) := by rw [hw3, heap_setCell_self H31.out]; rfl
    clear hw3
    have Hfin := Lib.hid (And.intro h33 ((Chg.of_below (F := fun b => b = NB) hb01).trans hchg (fun i hi => .inl hi)))
    clear hchg h33
    go_wp2_with fail
    go_ret
    exact ⟨rfl, Hfin.out⟩
  · have hst : (cgStep cuts n key).1 = n := by unfold cgStep; rw [if_pos hh]
    rw [hst]
    have Hh := Lib.hid (And.intro hh (And.intro hst h3)); clear hh hst h3
    go_enter Tryz.func246, Tryz.ntmps246
    go_wp2_with fail
    refine (contains_b _ _ cuts key _ _ Hh.out.1 hcv hV).mono ?_
    rintro e' w1 ⟨rfl, hb01⟩
    have Hb := Lib.hid (And.intro hb01 (heap_below Hh.out.2.2 hb01 (lt_of_heap Hh.out.2.2)))
    go_wp2_with fail
    go_ret
    exact ⟨rfl, Hb.out.2, Chg.of_below Hb.out.1⟩

theorem eg_ok (m : Mk) (hm : m.ok = true) (A : Nat → Int → Bool) (AB VB NB : Nat) (cv : Value) (cuts : List (List Int)) (W : World) (h1 : W.cell? ⟨AB, 0, none⟩ = some cv) (h2 : W.cell? ⟨VB, 0, none⟩ = some (.func (.func 143) #[] #[.pointer (some ⟨NB, 0, none⟩)]))
    (hne : ¬ AB = NB ∧ ¬ VB = NB) (hcv : V2 (fun b => ¬ b = NB) W cv cuts) : VisOk m.c.toNat W (fun b => b = NB) 246 #[.pointer (some ⟨AB, 0, none⟩), .pointer (some ⟨VB, 0, none⟩)] (cgStep cuts) 0 (keysA m A) (CntInv NB) := by
  refine ⟨enters_gh, ?_, ?_, ?_⟩
  · rintro s F w w' ⟨h1, T, h2⟩ _ h3
    exact ⟨h1, T, by rw [h3 NB ((h1 NB).2 rfl), h2]⟩
  · rintro s F w ⟨h1, T, h2⟩ b hb
    rw [(h1 b).1 hb]; exact lt_of_heap h2
  · rintro s F S w v key done rest hL hr ⟨g1, T, g2⟩ hchg hsub hV hS hlen
    rw [cg_run] at hr
    have hle := keysA_length (A := A) hm
    rw [hL] at hle
    simp only [Prod.mk.injEq, and_true] at hr
    have hcp : (done.countP fun k => !hasL cuts k) ≤ done.length := List.countP_le_length
    refine (eg1_any AB VB NB cv v cuts key s T w (cell_keep h1 (hchg.block _ (lt_of_cell h1) hne.1)) (cell_keep h2 (hchg.block _ (lt_of_cell h2) hne.2)) g2 hne (hcv.mono (S' := fun _ => True) (fun _ _ _ => trivial) (hchg.keep fun b hb => hb)) hV (by simp at hle; omega)).mono ?_
    rintro e w' ⟨rfl, h4, h5⟩
    exact ⟨F, rfl, ⟨g1, T, h4⟩, h5.mono (fun b hb => (g1 b).2 hb), fun b hb => .inl hb⟩
theorem fr_aok (m : Mk) (sets : List (List Int)) (hsl : (sets.length : Int) = m.c) (u : Value) (LB NB : Nat) (W : World) (h : W.cell? ⟨LB, 0, none⟩ = some u) (hne : ¬ LB = NB) (h2 : V2 (fun b => ¬ b = NB) W u sets) : AOk m W (fun b => b = NB) (.func (.func 294) #[] #[.pointer (some ⟨LB, 0, none⟩)]) (allowS sets) :=
  .inr ⟨_, _, rfl, enters_frees, fun c x w hc _ _ hch => (frees1_any (S := fun _ => True) u sets c x LB w (cell_keep h (hch.block _ (lt_of_cell h) hne)) (h2.mono (fun _ _ _ => trivial) (hch.keep fun b hb => hb)) (by omega)).mono fun _ _ ⟨h1, h2⟩ => ⟨h1, 0, by rw [h2]; rfl⟩⟩
theorem cg_ghosts (m : Mk) (sets cuts : List (List Int)) : (runL (cgStep cuts) 0 (genF m (allowS sets) [] false m.c.toNat [])).1 = ghostsN m sets cuts := by
  show (runL (cgStep cuts) 0 (keysA m (allowS sets))).1 = _
  rw [cg_run, openers_keys, Nat.zero_add]; rfl
theorem al_below {w w' : World} {o : Obj} (h : w' = w.drew.alloc o) : Below w.heap.size w w' := by
  rw [h]; exact ((Below.refl _ _).drew).alloc (Nat.le_refl _) _
theorem al_cell {w w' : World} {v : Value} {T : TypeId} (h : w' = w.drew.alloc (.cells #[v] T)) : w'.cell? ⟨w.heap.size, 0, none⟩ = some v := by
  rw [h]; exact cell_of_block (w := w.drew.alloc (.cells #[v] T)) (heap_alloc_self w.drew _) 0
section
variable {b0 b1 : Nat} {cs : Array Value} {v1 : Value} {F : Nat → Prop} {wr w w' : World}
theorem eh_at (hlt : b0 < wr.heap.size ∧ b1 < wr.heap.size) (hne : ¬ F b0 ∧ ¬ F b1) (h : (∀ o, wr.cell? ⟨b0, o, none⟩ = cs[o]?) ∧ wr.cell? ⟨b1, 0, none⟩ = some v1) (hc : Chg F wr w') : (∀ o, w'.cell? ⟨b0, o, none⟩ = cs[o]?) ∧ w'.cell? ⟨b1, 0, none⟩ = some v1 ∧ Chg F wr w' :=
  ⟨fun o => by rw [hc.cell hlt.1 hne.1, h.1], by rw [hc.cell hlt.2 hne.2, h.2], hc⟩
end
set_option maxRecDepth 100000 in
set_option maxHeartbeats 1000000 in
theorem eachGhost_any (m : Mk) (hm : m.ok = true) (sets : List (List Int)) (hsl : (sets.length : Int) = m.c) (u v : Value) (cuts : List (List Int)) (NB : Nat) (T : TypeId) (W : World) (h2 : V2 (fun b => ¬ b = NB) W u sets) (hc : V2 (fun b => ¬ b = NB) W v cuts) (h3 : W.heap[NB]? = some (.cells #[.int .i64 ((0 : Nat) : Int)] T (0, 0))) :
    Calls Tryz.prog 142 #[.agg #[.int .i64 m.c, .int .i64 m.d, .int .i64 m.s, .int .i64 m.e, .int .i64 m.l], .agg #[u], v, .func (.func 143) #[] #[.pointer (some ⟨NB, 0, none⟩)]] W fun e w' => e = .returned undef ∧ (∃ T', w'.heap[NB]? = some (.cells #[.int .i64 (ghostsN m sets cuts : Nat)] T' (0, 0))) ∧ Chg (fun b => b = NB) W w' := by
  obtain ⟨ua, uc, rfl, hux⟩ := h2.form
  obtain ⟨ca, cc, rfl, hcx⟩ := hc.form
  have hltN := lt_of_heap h3
  obtain ⟨WA, hWA⟩ : ∃ WA, WA = (((W.alloc (.cells #[.int .i64 m.c, .int .i64 m.d, .int .i64 m.s, .int .i64 m.e, .int .i64 m.l] 25)).alloc (.cells #[.slice ua sets.length uc] 117)).alloc (.cells #[.slice ca cuts.length cc] 26)).alloc (.cells #[.func (.func 143) #[] #[.pointer (some ⟨NB, 0, none⟩)]] 130) := ⟨_, rfl⟩
  have hbA : Below W.heap.size W WA := by rw [hWA]; exact by (repeat (first | (with_reducible refine Below.setCell ?_ ?_ _) | (with_reducible refine Below.alloc ?_ ?_ _) | (with_reducible refine Below.drew ?_) | (with_reducible refine below_drewN ?_ _) | (with_reducible exact Below.refl _ _) | (with_reducible assumption) | (with_reducible refine Below.trans ?_ (Below.mono (by with_reducible assumption) ?_)) | go_size))
  have hzA : WA.heap.size = W.heap.size + 4 := by rw [hWA]; simp
  have hA0 : WA.heap[W.heap.size]? = some (.cells #[.int .i64 m.c, .int .i64 m.d, .int .i64 m.s, .int .i64 m.e, .int .i64 m.l] 25 (0, 0)) := by rw [hWA]; simp only [heap_alloc_at, World.size_alloc]; (repeat rw [if_neg (by omega)]); simp
  have hA1 : WA.heap[W.heap.size + 1]? = some (.cells #[.slice ua sets.length uc] 117 (0, 0)) := by rw [hWA]; simp only [heap_alloc_at, World.size_alloc]; simp
  have hA2 : WA.heap[W.heap.size + 1 + 1]? = some (.cells #[.slice ca cuts.length cc] 26 (0, 0)) := by rw [hWA]; simp only [heap_alloc_at, World.size_alloc]; simp
  have hA3 : WA.heap[W.heap.size + 1 + 1 + 1]? = some (.cells #[.func (.func 143) #[] #[.pointer (some ⟨NB, 0, none⟩)]] 130 (0, 0)) := by rw [hWA]; simp only [heap_alloc_at, World.size_alloc]; simp
  have HA := Lib.hid (And.intro hA0 (And.intro hA1 (And.intro hA2 (And.intro hA3 hzA)))); clear hA0 hA1 hA2 hA3 hzA
  have H := Lib.hid (And.intro hm (And.intro hsl (And.intro h2 (And.intro hc h3)))); clear hm hsl h2 hc h3
  go_enter Tryz.func142, Tryz.ntmps142
  go_wp2_with fail
  rw [← hWA]
  have hcA := And.intro (fun o => cell_of_block HA.out.1 o) (show WA.cell? ⟨W.heap.size + 1, 0, none⟩ = some (.slice ua sets.length uc) from cell_of_block HA.out.2.1 0)
  have HWA := Lib.hid hWA; clear hWA
  have hltA : W.heap.size < WA.heap.size ∧ W.heap.size + 1 < WA.heap.size := by have := HA.out.2.2.2.2; omega
  have hneA : ¬ W.heap.size = NB ∧ ¬ W.heap.size + 1 = NB := by omega
  go_region_held3 (fun w' => (∀ o, w'.cell? ⟨W.heap.size, o, none⟩ = (#[.int .i64 m.c, .int .i64 m.d, .int .i64 m.s, .int .i64 m.e, .int .i64 m.l] : Array Value)[o]?) ∧ w'.cell? ⟨W.heap.size + 1, 0, none⟩ = some (.slice ua sets.length uc) ∧ Chg (fun b => b = NB) WA w') (first | exact eh_at hltA hneA hcA (Chg.refl _ _).drew | exact eh_at hltA hneA hcA (Chg.of_below hbE) | exact eh_at hltA hneA hcA ((Chg.of_below (F := fun b => b = NB) hbE).trans hchg (fun i hi => .inl hi)) | assumption) (first | (go_at_call 245; refine (frees_any _ _).mono ?_; rintro e' wE ⟨rfl, hwE⟩; have hbE := al_below hwE; have hE0 := al_cell hwE; clear hwE) | (go_at_call 144; refine (eachKey_any H.out.1 wE (eg_ok m H.out.1 _ _ _ NB _ cuts wE (cell_keep (show WA.cell? ⟨W.heap.size + 1 + 1, 0, none⟩ = some (.slice ca cuts.length cc) from cell_of_block HA.out.2.2.1 0) (hbE.block _ (lt_of_heap HA.out.2.2.1))) (cell_keep (show WA.cell? ⟨W.heap.size + 1 + 1 + 1, 0, none⟩ = some _ from cell_of_block HA.out.2.2.2.1 0) (hbE.block _ (lt_of_heap HA.out.2.2.2.1))) ⟨by omega, by omega⟩ ((H.out.2.2.2.1.below hbA).below hbE)) (fr_aok m sets H.out.2.1 _ _ NB wE hE0 (by have := hbA.size; omega) ((H.out.2.2.1.below hbA).below hbE)) ⟨fun b => Iff.rfl, T, heap_below (heap_below H.out.2.2.2.2 hbA hltN) hbE (by have := hbA.size; omega)⟩).mono ?_; rintro e' w5 ⟨F', ⟨hF', T5, hc5⟩, hchg, hsub, rfl⟩))
  all_goals
    rw [cg_ghosts] at hc5
    have Hfin := Lib.hid (And.intro hc5 (((Chg.of_below (F := fun b => b = NB) hbA).trans (Chg.of_below (F := fun b => b = NB) hbE) (fun i hi => .inl hi)).trans hchg (fun i hi => .inl hi)))
    clear hc5 hchg
    go_wp2_with fail
    go_end0
    exact ⟨rfl, ⟨T5, Hfin.out.1⟩, Hfin.out.2⟩
end Go.Proofs.YtmfgdoflddhngaaGreat
