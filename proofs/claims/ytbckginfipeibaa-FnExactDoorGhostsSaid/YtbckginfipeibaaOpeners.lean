/- The openers of a lock, as the reference finds them. No conditions. -/
import Derived.Test.YtbckginfipeibaaOpenrs
import Derived.Test.YtbckginfipeibaaRefFirst
namespace Go.Proofs.Ytbckginfipeibaa
open Go.RowKit
set_option linter.unusedVariables false
set_option linter.unusedSimpArgs false

theorem run_append_zero {P : Program} {w : World} (base : Nat) (t ty e : TypeId) (i : TypeInfo) (size : Nat) (ht : P.underlying t = some (.slice e)) (hi : P.info? e = some i)
    (v : Value) (n : Nat) (xs : List Value) (hown : w.ownsRow base e size v n xs) (ad : Option Addr) (c : Nat) :
    (Builtin.append_ #[t, t] ty #[v, .slice ad 0 c]).run P w = .ok v w := by
  rcases hown.2 with ⟨rfl, rfl⟩ | ⟨g, cap, cur, rfl, _, _, hnc, _⟩
  · cases ad <;> simp [Builtin.append_, run_underlying ht, sizeOf, typeInfo, hi, Builtin.lenOf, Builtin.firstCells, loadCells, loadCellsFrom]
  · cases ad <;> simp [Builtin.append_, run_underlying ht, sizeOf, typeInfo, hi, Builtin.lenOf, Builtin.firstCells, loadCells, loadCellsFrom, hnc, storeCells]
/-- Nothing is appended. -/
theorem step_append_zero {P : Program} {w : World} {ops : Array Oper} {o : Oper} {a : Act} {K : Act → World → Prop} {Q : Exit → Act → World → Prop} {E : Prop} (hg : o.guard = none) (s x : Operand) (t : TypeId)
    (ho : o.op = .call { callee := .builtin .append, args := #[s, x], argTypes := #[t, t] })
    (base : Nat) (e : TypeId) (i : TypeInfo) (size : Nat) (ht : P.underlying t = some (.slice e)) (hi : P.info? e = some i)
    (v : Value) (n : Nat) (xs : List Value) (hs : a.eval s = v) (hown : w.ownsRow base e size v n xs) (ad : Option Addr) (c : Nat) (hx : a.eval x = .slice ad 0 c)
    (h : K (a.put o.dst v) w) : if Region.wanted o (yielded ops a.tmps) = true then Oper.wp P o a w K Q else E := by
  have hw : Region.wanted o (yielded ops a.tmps) = true := by simp [Region.wanted, hg]
  rw [if_pos hw]
  have hrun := run_append_zero (P := P) (w := w) base t o.type e i size ht hi v n xs hown ad c
  unfold Oper.wp
  simp [execOp, ho, resolve, invoke, builtin, hs, hx, hrun, Result.andThen]
  exact h

theorem own_news {w : World} {B : Nat} {e : TypeId} {g n c : Nat} {xs : List Value} (h : w.ownsRow B e 1 (.slice (some ⟨g, 0, none⟩) n c) n xs) : ∀ j u, xs[j]? = some u → w.cell? ((⟨g, 0, none⟩ : Addr).add j) = some u := by
  intro j u hj
  have hl := h.1
  have hjn : j < n * 1 := by
    have := (List.getElem?_eq_some_iff.1 hj).1
    omega
  have := h.cellAt j hjn
  unfold Addr.add
  split
  · rename_i e; subst e; rw [this, hj]
  · simp only [Nat.zero_add]; rw [this, hj]
theorem RowVs.one {S : Nat → Prop} {w : World} {vs : List Value} {ls : List (List Int)} (h : RowVs S w vs ls) : ∀ u ∈ vs, u.oneCell' = true := by
  intro u hu
  obtain ⟨k, hk, e⟩ := List.getElem_of_mem hu
  obtain ⟨ev, h1, h2⟩ := h.2 k (by rw [← h.1]; exact hk)
  obtain ⟨a, c, rfl, _⟩ := h2.form
  rw [List.getElem?_eq_getElem hk, e] at h1
  cases h1
  rfl
theorem RowVs.app {S : Nat → Prop} {w : World} {vs vs' : List Value} {ls ls' : List (List Int)} (h : RowVs S w vs ls) (h' : RowVs S w vs' ls') : RowVs S w (vs ++ vs') (ls ++ ls') := by
  refine ⟨by simp [h.1, h'.1], fun k hk => ?_⟩
  have e1 := h.1
  have e2 := h'.1
  by_cases hkl : k < ls.length
  · obtain ⟨ev, h1, h2⟩ := h.2 k hkl
    exact ⟨ev, by rw [List.getElem?_append_left (by omega)]; exact h1, by rw [show getl (ls ++ ls') k = getl ls k from by simp [getl, List.getElem?_append_left hkl]]; exact h2⟩
  · obtain ⟨ev, h1, h2⟩ := h'.2 (k - ls.length) (by simp at hk; omega)
    refine ⟨ev, by rw [List.getElem?_append_right (by omega), e1]; exact h1, ?_⟩
    have e : getl (ls ++ ls') k = getl ls' (k - ls.length) := by
      unfold getl
      rw [List.getD_eq_getElem?_getD, List.getD_eq_getElem?_getD, List.getElem?_append_right (by omega)]
    rw [e]; exact h2
def OpnPost (S : Nat → Prop) (W : World) (ks : List (List Int)) (e' : Ending) (w' : World) : Prop :=
  ∃ v' vs, e' = .returned v' ∧ w'.ownsRow W.heap.size 29 1 v' ks.length vs ∧ RowVs (fun b => S b ∨ W.heap.size ≤ b) w' vs ks ∧ Below W.heap.size W w'

def opsTo (m : Mk) (sets : List (List Int)) (rem : Nat) (l : List Int) (x : Nat) : List (List Int) := ((getl sets l.length).take x).flatMap fun y => genS m sets rem (l ++ [y])
theorem opsTo_succ (m : Mk) (sets : List (List Int)) (rem : Nat) (l : List Int) {x : Nat} (h : x < (getl sets l.length).length) : opsTo m sets rem l (x + 1) = opsTo m sets rem l x ++ genS m sets rem (l ++ [geti (getl sets l.length) x]) := by
  unfold opsTo; rw [take_geti h, List.flatMap_append]; simp
theorem opsTo_len {m : Mk} {sets : List (List Int)} (h8 : ∀ i, (getl sets i).length ≤ 8) (rem : Nat) (l : List Int) : ∀ x, x ≤ (getl sets l.length).length → (opsTo m sets rem l x).length ≤ x * 8 ^ rem
  | 0, _ => by simp [opsTo]
  | x + 1, h => by
    rw [opsTo_succ m sets rem l h, List.length_append]
    have := opsTo_len (m := m) h8 rem l x (by omega)
    have := genS_length (m := m) h8 rem (l ++ [geti (getl sets l.length) x])
    rw [Nat.succ_mul]; omega
theorem RowVs.chg {S : Nat → Prop} {F : Nat → Prop} {w w' : World} {vs : List Value} {ls : List (List Int)} (h : RowVs S w vs ls) (hc : Chg F w w') (hs : ∀ b, S b → ¬ F b) : RowVs S w' vs ls := h.keep (hc.keep hs)
theorem pow8 {rem : Nat} (h : rem ≤ 6) : 8 ^ rem ≤ 262144 := Nat.le_trans (Nat.pow_le_pow_right (by decide) h) (by decide)
theorem RowVs.far2 {C : Nat → Prop} {w w1 : World} {ou v1 : Value} {vs : List Value} {ls : List (List Int)} (h : RowVs (fun b => ou.ownBlock ≠ some b ∧ C b) w vs ls) (hg : w.grownBy w1 ou.ownBlock) (hblk : v1.ownBlock = ou.ownBlock ∨ ∃ g, v1.ownBlock = some g ∧ w.heap.size ≤ g) : RowVs (fun b => v1.ownBlock ≠ some b ∧ C b) w1 vs ls :=
  ⟨h.1, fun k hk => by
    obtain ⟨ev, h1, h2⟩ := h.2 k hk
    refine ⟨ev, h1, h2.mono (fun b h3 h4 => ⟨fun e => ?_, h3.2⟩) (grow_keep hg fun g hgg hS => hS.1 hgg)⟩
    rcases hblk with e1 | ⟨g, e1, hge⟩
    · exact h3.1 (e1.symm.trans e)
    · rw [e] at e1; cases e1; omega⟩
section
variable {b0 b1 b2 o2 : Nat} {c0 c1 c2 c3 c4 c5 c6 : Value} {F : Nat → Prop} {wr w w' : World}
theorem ob_at (hne : ¬ F b0 ∧ ¬ F b1 ∧ ¬ F b2) (h : wr.cell? ⟨b0, 0, none⟩ = some c0 ∧ wr.cell? ⟨b0, 1, none⟩ = some c1 ∧ wr.cell? ⟨b0, 2, none⟩ = some c2 ∧ wr.cell? ⟨b0, 3, none⟩ = some c3 ∧ wr.cell? ⟨b0, 4, none⟩ = some c4 ∧ wr.cell? ⟨b1, 0, none⟩ = some c5 ∧ wr.cell? ⟨b2, o2, none⟩ = some c6) (hc : Chg F wr w') :
    w'.cell? ⟨b0, 0, none⟩ = some c0 ∧ w'.cell? ⟨b0, 1, none⟩ = some c1 ∧ w'.cell? ⟨b0, 2, none⟩ = some c2 ∧ w'.cell? ⟨b0, 3, none⟩ = some c3 ∧ w'.cell? ⟨b0, 4, none⟩ = some c4 ∧ w'.cell? ⟨b1, 0, none⟩ = some c5 ∧ w'.cell? ⟨b2, o2, none⟩ = some c6 ∧ Chg F wr w' := by
  obtain ⟨h0, h1, h2, h3, h4, h5, h6⟩ := h
  obtain ⟨n0, n1, n2⟩ := hne
  exact ⟨by rw [hc.cell (lt_of_cell h0) n0]; exact h0, by rw [hc.cell (lt_of_cell h0) n0]; exact h1, by rw [hc.cell (lt_of_cell h0) n0]; exact h2, by rw [hc.cell (lt_of_cell h0) n0]; exact h3, by rw [hc.cell (lt_of_cell h0) n0]; exact h4, by rw [hc.cell (lt_of_cell h5) n1]; exact h5, by rw [hc.cell (lt_of_cell h6) n2]; exact h6, hc⟩
theorem ob_chg (h : w.cell? ⟨b0, 0, none⟩ = some c0 ∧ w.cell? ⟨b0, 1, none⟩ = some c1 ∧ w.cell? ⟨b0, 2, none⟩ = some c2 ∧ w.cell? ⟨b0, 3, none⟩ = some c3 ∧ w.cell? ⟨b0, 4, none⟩ = some c4 ∧ w.cell? ⟨b1, 0, none⟩ = some c5 ∧ w.cell? ⟨b2, o2, none⟩ = some c6 ∧ Chg F wr w) : Chg F wr w := h.2.2.2.2.2.2.2
end
theorem range_snocI {l : List Int} {y : Int} (h : ∀ k, k < l.length → 0 ≤ geti l k ∧ geti l k ≤ 7) (hy : 0 ≤ y ∧ y ≤ 7) : ∀ k, k < (l ++ [y]).length → 0 ≤ geti (l ++ [y]) k ∧ geti (l ++ [y]) k ≤ 7 := by
  intro k hk
  by_cases hkl : k < l.length
  · rw [geti_append hkl]; exact h k hkl
  · rw [show k = l.length from by simp at hk; omega, geti_snoc]; exact hy

set_option maxRecDepth 100000 in
set_option maxHeartbeats 4000000 in
theorem l04Openers_any (m : Mk) (hm : m.ok = true) (sets : List (List Int)) (hsl : (sets.length : Int) = m.c) (h8 : ∀ i, (getl sets i).length ≤ 8) (h7 : ∀ i, ∀ x ∈ getl sets i, 0 ≤ x ∧ x ≤ 7) :
    ∀ (rem : Nat) (S S2 : Nat → Prop) (v u : Value) (l : List Int) (most : Int) (W : World), V2 S2 W u sets → V1 S W v l → (l = [] → PV v) → (l.length : Int) + rem = m.c → (∀ k, k < l.length → 0 ≤ geti l k ∧ geti l k ≤ 7) → ((8 ^ rem : Nat) : Int) ≤ most → most ≤ 1000000 →
    Calls Try.prog 119 #[.agg #[.int .i64 m.c, .int .i64 m.d, .int .i64 m.s, .int .i64 m.e, .int .i64 m.l], .agg #[u], v, .int .i64 most] W (OpnPost S W (genS m sets rem l)) := by
  have hmk := Mk.ok_iff.1 hm
  obtain ⟨i0, hi, hz0, hz1, hz2⟩ := info_parts inf_int
  obtain ⟨i1, gi, gz0, gz1, gz2⟩ := info_parts inf_ints
  intro rem
  induction rem with
  | zero =>
    intro S S2 v u l most W h2 h hp hlr hrange hm1 hm2
    have hV := h
    have Hrange := Lib.hid hrange; clear hrange
    obtain ⟨a, c, rfl, hmx⟩ := h.form
    obtain ⟨ua, uc, rfl, hux⟩ := h2.form
    clear hp hm h2
    have hlen : l.length ≤ 6 := by omega
    have hl : (l.length : Int) = m.c := by omega
    have e2 : ((l.length : Int) == m.c) = true := by simp [hl]
    have hmo : ¬ most ≤ 0 := by simp at hm1; omega
    have hmo2 : decide (most ≤ 0) = false := decide_eq_false hmo
    have Hl := Lib.hid (And.intro hl hmk); clear hl hlr hmk
    obtain ⟨WA, hWA, hBA, hzA, HZA, hcA, hhA⟩ := box_facts W #[.int .i64 m.c, .int .i64 m.d, .int .i64 m.s, .int .i64 m.e, .int .i64 m.l] 32
    obtain ⟨W1, hW1, hB1, hz1', HZ1, hc1, hh1⟩ := box_facts WA #[.slice ua sets.length uc] 79
    have hB01 : Below W.heap.size W W1 := hBA.trans (hB1.mono (by omega))
    have hz01 : W.heap.size < W1.heap.size := by omega
    have hc01 : ∀ o, W1.cell? ⟨W.heap.size, o, none⟩ = (#[.int .i64 m.c, .int .i64 m.d, .int .i64 m.s, .int .i64 m.e, .int .i64 m.l] : Array Value)[o]? := fun o => by rw [(bcell hB1).1 _ _ hzA, hcA]
    have hV1 := hV.below hB01
    clear hhA hh1
    cases hb : begins m l
    · have hfin : genS m sets 0 l = [] := genS_not hb 0
      rw [hfin]
      have Hb := Lib.hid (And.intro hb hfin); clear hb hfin
      go_enter Try.func119, Try.ntmps119
      go_wp2_with fail
      rw [← hWA, ← hW1]
      refine (l02Begins_b m _ l _ _ Hb.out.1 hV1 (by omega) Hrange.out).mono ?_; rintro e' w2 ⟨rfl, hb_w2⟩; have hB2 := (Below.refl W1.heap.size W1).trans (hb_w2.mono (Below.refl W1.heap.size W1).size)
      clear hc01 hcA hc1
      go_wp2_with fail
      go_ret
      exact ⟨_, [], rfl, ⟨rfl, .inl ⟨rfl, rfl⟩⟩, RowVs.nil, hB01.trans (hB2.mono (by omega))⟩
    · have Hb := Lib.hid hb; clear hb
      by_cases hk : (kinds l : Int) < m.l
      · have hfin : genS m sets 0 l = [] := by unfold genS; rw [if_neg (by omega)]
        rw [hfin]
        have Hf := Lib.hid hfin; clear hfin
        go_enter Try.func119, Try.ntmps119
        go_wp2_with fail
        rw [← hWA, ← hW1]
        refine (l02Begins_b m _ l _ _ Hb.out hV1 (by omega) Hrange.out).mono ?_; rintro e' w2 ⟨rfl, hb_w2⟩; have hB2 := (Below.refl W1.heap.size W1).trans (hb_w2.mono (Below.refl W1.heap.size W1).size)
        have hx2 : ∀ o, (w2).cell? ⟨W.heap.size, o, none⟩ = (#[.int .i64 m.c, .int .i64 m.d, .int .i64 m.s, .int .i64 m.e, .int .i64 m.l] : Array Value)[o]? := fun o => by rw [(bcell hB2).1 _ _ hz01, hc01]
        clear hc01 hcA hc1
        go_wp2_with fail
        go_quiet ((go_at_call 131; first | exact quiet_at (l02Kinds_q _ _ _ (V1.drewN (hV1.below hB2))) | exact quiet_at0 (l02Kinds_q _ _ _ (V1.drewN (hV1.below hB2)))))
        go_wp2_with fail
        go_ret
        exact ⟨_, [], rfl, ⟨rfl, .inl ⟨rfl, rfl⟩⟩, RowVs.nil, by repeat' first | refine below_drewN ?_ _ | exact hB01.trans (hB2.mono (by omega))⟩
      · have hfin : genS m sets 0 l = [l] := by unfold genS; rw [if_pos ⟨Hb.out, by omega⟩]
        rw [hfin]
        have Hf := Lib.hid hfin; clear hfin
        have hd : decide ((kinds l : Int) < m.l) = false := decide_eq_false hk
        go_enter Try.func119, Try.ntmps119
        go_wp2_with fail
        rw [← hWA, ← hW1]
        refine (l02Begins_b m _ l _ _ Hb.out hV1 (by omega) Hrange.out).mono ?_; rintro e' w2 ⟨rfl, hb_w2⟩; have hB2 := (Below.refl W1.heap.size W1).trans (hb_w2.mono (Below.refl W1.heap.size W1).size)
        have hx2 : ∀ o, (w2).cell? ⟨W.heap.size, o, none⟩ = (#[.int .i64 m.c, .int .i64 m.d, .int .i64 m.s, .int .i64 m.e, .int .i64 m.l] : Array Value)[o]? := fun o => by rw [(bcell hB2).1 _ _ hz01, hc01]
        clear hc01 hcA hc1
        go_wp2_with fail
        go_quiet ((go_at_call 131; first | exact quiet_at (l02Kinds_q _ _ _ (V1.drewN (hV1.below hB2))) | exact quiet_at0 (l02Kinds_q _ _ _ (V1.drewN (hV1.below hB2)))))
        go_wp2_with fail
        go_ret
        exact ⟨_, [_], rfl, (World.ownsRow_lit (base := W.heap.size) _ #[.slice a l.length c] 1 (by have := hB2.size; simp; omega) (by unfold maxLen; omega) rfl), RowVs.snoc RowVs.nil (V1.below (w := w2.drewN nq) (V1.drewN ((hV1.below hB2).mono (S' := fun b => S b ∨ W.heap.size ≤ b) (fun b h _ => .inl h) (fun _ _ _ => rfl))) ((Below.refl _ _).alloc (Nat.le_refl _) _)), hB01.trans ((Below.alloc (below_drewN hB2 nq) (show W1.heap.size ≤ w2.heap.size from hB2.size) _).mono (by omega))⟩
  | succ rem ih =>
    intro S S2 v u l most W h2 h hp hlr hrange hm1 hm2
    have hV := h
    have Hrange := Lib.hid hrange; clear hrange
    obtain ⟨a, c, rfl, hmx⟩ := h.form
    obtain ⟨ua, uc, rfl, hux⟩ := h2.form
    have hlen : l.length ≤ 6 ∧ rem ≤ 5 := by omega
    have hl : ¬ (l.length : Int) = m.c := by omega
    have hls : (l.length : Int) < (sets.length : Int) := by omega
    have hls2 : l.length < sets.length := by omega
    have e2 : ((l.length : Int) == m.c) = false := by simp [hl]
    obtain ⟨P, hP⟩ : ∃ P, 8 ^ rem = P := ⟨_, rfl⟩
    have hP0 : 1 ≤ P := by rw [← hP]; exact Nat.one_le_pow _ _ (by decide)
    have hPs : 8 ^ (rem + 1) = 8 * P := by rw [Nat.pow_succ, hP, Nat.mul_comm]
    rw [hPs] at hm1
    have hmo : ¬ most ≤ 0 := by omega
    have hmo2 : decide (most ≤ 0) = false := decide_eq_false hmo
    have IH := Lib.hid ih; clear ih
    have Hp := Lib.hid hp; clear hp
    obtain ⟨WA, hWA, hBA, hzA, HZA, hcA, hhA⟩ := box_facts W #[.int .i64 m.c, .int .i64 m.d, .int .i64 m.s, .int .i64 m.e, .int .i64 m.l] 32
    obtain ⟨W1, hW1, hB1, hz1', HZ1, hc1, hh1⟩ := box_facts WA #[.slice ua sets.length uc] 79
    have hB01 : Below W.heap.size W W1 := hBA.trans (hB1.mono (by omega))
    have hz01 : W.heap.size < W1.heap.size := by omega
    have hz02 : W.heap.size + 1 < W1.heap.size := by have := HZA.out; omega
    have hc01 : ∀ o, W1.cell? ⟨W.heap.size, o, none⟩ = (#[.int .i64 m.c, .int .i64 m.d, .int .i64 m.s, .int .i64 m.e, .int .i64 m.l] : Array Value)[o]? := fun o => by rw [(bcell hB1).1 _ _ hzA, hcA]
    rw [HZA.out] at hc1
    have hV1 := (hV.below hB01).old
    have h21 := (h2.below hB01).old
    clear hhA hh1 hcA h2 h
    cases hb : begins m l
    · have hfin : genS m sets (rem + 1) l = [] := genS_not hb _
      rw [hfin]
      have Hb := Lib.hid (And.intro hb hfin); clear hb hfin hlr hmk
      go_enter Try.func119, Try.ntmps119
      go_wp2_with fail
      rw [← hWA, ← hW1]
      refine (l02Begins_b m _ l _ _ Hb.out.1 hV1 (by omega) Hrange.out).mono ?_; rintro e' w2 ⟨rfl, hb_w2⟩; have hB2 := (Below.refl W1.heap.size W1).trans (hb_w2.mono (Below.refl W1.heap.size W1).size)
      clear hc01 hc1
      go_wp2_with fail
      go_ret
      exact ⟨_, [], rfl, ⟨rfl, .inl ⟨rfl, rfl⟩⟩, RowVs.nil, hB01.trans (hB2.mono (by omega))⟩
    · have hfin : genS m sets (rem + 1) l = opsTo m sets rem l (getl sets l.length).length := by
        rw [genS, if_pos hb, opsTo, List.take_length]
      rw [hfin]
      have Hf := Lib.hid hfin; clear hfin
      have Hb := Lib.hid hb; clear hb
      have Hlr := Lib.hid hlr; clear hlr
      obtain ⟨s, hs⟩ : ∃ s, getl sets l.length = s := ⟨_, rfl⟩
      have hs8 : s.length ≤ 8 := by rw [← hs]; exact h8 _
      have hs7 : ∀ x ∈ s, 0 ≤ x ∧ x ≤ 7 := by rw [← hs]; exact h7 _
      have hot := opsTo_len (m := m) h8 rem l
      have hos := fun x (hx : x < (getl sets l.length).length) => opsTo_succ m sets rem l hx
      have hgl := fun y => genS_length (m := m) h8 rem (l ++ [y])
      rw [hs] at hot hos ⊢
      rw [hP] at hot hgl
      obtain ⟨b2, off2, a2, c2, rfl, _, hc2, hr2⟩ := h21.cell hls2
      rw [hs] at hc2 hr2
      have HS := Lib.hid (And.intro hot (And.intro hos (And.intro hgl (And.intro hs7 hs)))); clear hot hos hgl hs7 hs
      clear hmk
      have Hm := Lib.hid hm; clear hm
      have Hc := Lib.hid (And.intro h8 h7); clear h8 h7
      go_enter Try.func119, Try.ntmps119
      go_wp2_with fail
      rw [← hWA, ← hW1]
      refine (l02Begins_b m _ l _ _ Hb.out hV1 (by omega) Hrange.out).mono ?_; rintro e' w2 ⟨rfl, hb_w2⟩; have hB2 := (Below.refl W1.heap.size W1).trans (hb_w2.mono (Below.refl W1.heap.size W1).size)
      have hx2 : ∀ o, (w2).cell? ⟨W.heap.size, o, none⟩ = (#[.int .i64 m.c, .int .i64 m.d, .int .i64 m.s, .int .i64 m.e, .int .i64 m.l] : Array Value)[o]? := fun o => by rw [(bcell hB2).1 _ _ hz01, hc01]
      have hl2 : ∀ o, w2.cell? ⟨W.heap.size + 1, o, none⟩ = (#[.slice (some ⟨b2, off2, none⟩) sets.length uc] : Array Value)[o]? := fun o => by rw [(bcell hB2).1 _ _ hz02, hc1]
      have hs2 := cell_keep hc2 (hB2.block _ (lt_of_cell hc2))
      have hbS : ∀ o1, Below w2.heap.size w2 (w2.alloc o1) := fun o1 => (Below.refl _ _).alloc (Nat.le_refl _) _
      have hlA : ∀ o1, (w2.alloc o1).cell? ⟨W.heap.size + 1, 0, none⟩ = some (.slice (some ⟨b2, off2, none⟩) sets.length uc) := fun o1 => by rw [(bcell (hbS o1)).1 _ _ (by have := hB2.size; omega), hl2]; rfl
      have hsA : ∀ o1, (w2.alloc o1).cell? ⟨b2, off2 + l.length, none⟩ = some (.slice a2 s.length c2) := fun o1 => cell_keep hs2 ((hbS o1).block _ (lt_of_cell hs2))
      have Hc01 := Lib.hid (And.intro hc01 (And.intro hc1 hs2)); clear hc01 hc1
      have HW1 := Lib.hid (And.intro hWA hW1); clear hWA hW1
      go_wp2_with fail
      have Hx2 := Lib.hid (And.intro hx2 (And.intro hl2 (And.intro hlA hsA))); clear hx2 hl2 hlA hsA
      have hown0 := own_lit0 w2 W1.heap.size 29 1 hB2.size
      have hzA2 := hB2.size
      have hbA : Below W1.heap.size W1 (w2.alloc (.cells #[] 29)) := hB2.alloc hzA2 _
      have hFW : ∀ b, b < W1.heap.size → b ≠ w2.heap.size := fun b hb e => by omega
      go_loopw [9, 11] (fun ou ix wr => ∃ (x : Nat) (vs : List Value), x ≤ s.length ∧ ix = .int .i64 (x : Int) ∧ wr.ownsRow W1.heap.size 29 1 ou (opsTo m sets rem l x).length vs ∧ RowVs (fun b => ou.ownBlock ≠ some b ∧ W.heap.size ≤ b) wr vs (opsTo m sets rem l x) ∧ Below W1.heap.size W1 wr) (fun _ ix _ => s.length - (intOf ix).toNat)
      case atStart => exact ⟨0, [], Nat.zero_le _, rfl, hown0, RowVs.nil, hbA⟩
      case round =>
        obtain ⟨x, vs, hx, rfl, hown, hR, hB⟩ := hrel
        have hzr := hB.size
        have hot := HS.out.1 x hx
        obtain ⟨oa, oc, rfl, ho1, ho2⟩ := own_form hown
        have hoF : ∀ b, b < W1.heap.size → ¬ (Value.slice oa (opsTo m sets rem l x).length oc).ownBlock = some b := fun b hb e => by have := (hown.lt b e).1; omega
        have hoL : ∀ b, wr.heap.size ≤ b → ¬ (Value.slice oa (opsTo m sets rem l x).length oc).ownBlock = some b := fun b hb e => by have := (hown.lt b e).2; omega
        have Hown := Lib.hid (And.intro hown hR); clear hown hR
        by_cases hxx : x < s.length
        · have hst := HS.out.2.1 x hxx
          have hy := HS.out.2.2.2.1 _ (geti_mem hxx)
          have hgl := HS.out.2.2.1 (geti s x)
          obtain ⟨y, hye⟩ : ∃ y, geti s x = y := ⟨_, rfl⟩
          rw [hye] at hst hy hgl
          obtain ⟨cn, hcn⟩ : ∃ cn, (genS m sets rem (l ++ [y])).length = cn := ⟨_, rfl⟩
          obtain ⟨cnt, hcnt⟩ : ∃ cnt, (opsTo m sets rem l x).length = cnt := ⟨_, rfl⟩
          rw [hcn] at hgl
          rw [hcnt] at hot hoF hoL ⊢
          have hx7 : x * P ≤ 7 * P := Nat.mul_le_mul_right _ (by omega)
          have hP6 : P ≤ 32768 := by rw [← hP]; exact Nat.le_trans (Nat.pow_le_pow_right (by decide) hlen.2) (by decide)
          have hmost : ((8 ^ rem : Nat) : Int) ≤ most - cnt := by rw [hP]; omega
          have hwm : IntKind.i64.wrap (most - (cnt : Int)) = most - (cnt : Int) := IntWalk.i64_in _ (by omega)
          obtain ⟨bs, offs, rfl, hbs, hcx⟩ := (hr2.below hB).cell hxx
          rw [hye] at hcx
          have hxr : ∀ o, wr.cell? ⟨W.heap.size, o, none⟩ = (#[.int .i64 m.c, .int .i64 m.d, .int .i64 m.s, .int .i64 m.e, .int .i64 m.l] : Array Value)[o]? := fun o => by rw [(bcell hB).1 _ _ hz01, Hc01.out.1]
          have hlr : wr.cell? ⟨W.heap.size + 1, 0, none⟩ = some (.slice (some ⟨b2, off2, none⟩) sets.length uc) := by rw [(bcell hB).1 _ _ hz02, Hc01.out.2.1]; rfl
          have hcell0 := hxr 0
          have hcell1 := hxr 1
          have hcell2 := hxr 2
          have hcell3 := hxr 3
          have hcell4 := hxr 4
          simp at hcell0 hcell1 hcell2 hcell3 hcell4
          have Hxr := Lib.hid hxr; clear hxr
          have hne := And.intro (hoF _ hz01) (And.intro (hoF _ hz02) (hoF _ hbs))
          have hAt := And.intro hcell0 (And.intro hcell1 (And.intro hcell2 (And.intro hcell3 (And.intro hcell4 (And.intro hlr hcx)))))
          have hVr := hV1.below hB
          have h2r := h21.below hB
          have hrl := range_snocI Hrange.out hy
          have Hrl := Lib.hid (And.intro hrl (And.intro hP hcn)); clear hrl hcn
          have hxs : (x : Int) < (s.length : Int) := by omega
          have hx0 : (0 : Int) ≤ (x : Int) := by omega
          have hownO := Hown.out.1
          have hRO := Hown.out.2
          rw [hcnt] at hownO hRO
          have HRO := Lib.hid hRO; clear hRO
          have Hst := Lib.hid (And.intro hst hcnt); clear hst hcnt
          by_cases hcz : cn = 0
          · subst hcz
            have hst0 : opsTo m sets rem l (x + 1) = opsTo m sets rem l x := by rw [Hst.out.1, List.eq_nil_of_length_eq_zero Hrl.out.2.2, List.append_nil]
            have Hst0 := Lib.hid hst0; clear hst0
            go_wp2_with fail
            go_region_held3 (fun w' => w'.cell? ⟨W.heap.size, 0, none⟩ = some (.int .i64 m.c) ∧ w'.cell? ⟨W.heap.size, 1, none⟩ = some (.int .i64 m.d) ∧ w'.cell? ⟨W.heap.size, 2, none⟩ = some (.int .i64 m.s) ∧ w'.cell? ⟨W.heap.size, 3, none⟩ = some (.int .i64 m.e) ∧ w'.cell? ⟨W.heap.size, 4, none⟩ = some (.int .i64 m.l) ∧ w'.cell? ⟨W.heap.size + 1, 0, none⟩ = some (.slice (some ⟨b2, off2, none⟩) sets.length uc) ∧ w'.cell? ⟨bs, offs + x, none⟩ = some (.int .i64 y) ∧ Chg (fun b => (Value.slice oa cnt oc).ownBlock = some b) wr w')
              (first | exact ob_at hne hAt (Chg.refl _ _).drew | exact ob_at hne hAt ((ob_chg (by assumption)).then_below (by assumption)) | exact ob_at hne hAt ((ob_chg (by assumption)).alloc _) | exact ob_at hne hAt ((ob_chg (by assumption)).grown hgrow (fun k hk => .inr (own_lo hown1 (Nat.le_refl _) k hk))) | exact ob_at hne hAt ((ob_chg (by assumption)).grown hgrow2 (fun k hk => .inl hk)) | assumption)
              (first | (go_at_call 85; refine (l01Own_any _ l _ (hVr.mono (S' := fun b => b < W1.heap.size) (fun _ h _ => h) ((ob_chg (by assumption)).keep hoF)) Hp.out (by omega)).mono ?_; rintro e' w' ⟨v1, rfl, hown0, hb⟩; have hzz := Nat.le_trans (ob_chg (by assumption)).size hb.size; have hown1 := own_base hown0 (ob_chg (by assumption)).size; clear hown0; have hB1w : Below wr.heap.size wr w' := (by refine Below.trans ?_ (hb.mono ?_) <;> first | go_grown | (simp; done))) | (refine step_append_lies _ (by rfl) _ _ _ (by rfl) wr.heap.size 2 i0 _ 1 8 Try.underlying29 hi hz0 hz1 hz2 rfl (by omega) _ l.length _ (by rfl) (hown1.alloc _) ⟨_, 0, none⟩ 1 1 [.int .i64 y] (by rfl) (by rfl) (World.news_of_block (heap_alloc_new _ _)) (by simp [Value.oneCell']) (by omega) (by unfold maxLen; omega) (by omega) (by simp; omega) _ rfl ?_; intro gg cap w1 hown2 hgrow hat hlt; have hB2w : Below wr.heap.size wr w1 := (hB1w.alloc hB1w.size _).grown hgrow (by have := hB1w.size; simp; omega) (own_lo hown1 (Nat.le_refl _))) | (refine step_append_lies _ (by rfl) _ _ _ (by rfl) wr.heap.size 2 i0 _ 1 8 Try.underlying29 hi hz0 hz1 hz2 rfl (by omega) _ l.length _ (by rfl) hown1 ⟨_, 0, none⟩ 1 1 [.int .i64 y] (by rfl) (by rfl) (news_old hb) (by simp [Value.oneCell']) (by omega) (by unfold maxLen; omega) (by omega) (by omega) _ rfl ?_; intro gg cap w1 hown2 hgrow hat hlt; have hB2w : Below wr.heap.size wr w1 := hB1w.grown hgrow hB1w.size (own_lo hown1 (Nat.le_refl _))) | (go_at_call 119; refine (IH.out (fun b => wr.heap.size ≤ b) (fun b => b < W1.heap.size) _ _ (l ++ [y]) _ _ (h2r.mono (fun _ h _ => h) ((ob_chg (by assumption)).keep hoF)) (own_V1B hown2 (by simp)) (fun h => by simp at h) (by have := Hlr.out; simp; omega) Hrl.out.1 hmost (by omega)).mono ?_; rintro e' wq ⟨v3, vs3, rfl, hown3, hR3, hbq⟩; have hcn3 := Hrl.out.2.2; rw [hcn3] at hown3; clear hcn3; obtain ⟨a3, c3, rfl, h3c, h3m⟩ := own_form hown3; have hB3w : Below wr.heap.size wr wq := hB2w.trans (hbq.mono hB2w.size); have hownQ := own_keep hownO hB3w) | (refine step_append_zero (by rfl) _ _ _ (by rfl) W1.heap.size 29 i1 1 Try.underlying24 gi _ cnt vs (by rfl) hownQ a3 c3 (by rfl) ?_)) 
            all_goals
              have Hfin := Lib.hid (And.intro hownQ hB3w); clear hownQ hown3 hR3 hownO hVr h2r hAt hne
              go_wp2_with fail
              go_roundw
              case rel => exact ⟨x + 1, vs, by omega, by go_num, by rw [Hst0.out, Hst.out.2]; exact Hfin.out.1, by rw [Hst0.out]; exact HRO.out.below Hfin.out.2, hB.trans (Hfin.out.2.mono hzr)⟩
              case measure => simp [intOf]; omega
          · skip
            go_wp2_with fail
            go_region_held3 (fun w' => w'.cell? ⟨W.heap.size, 0, none⟩ = some (.int .i64 m.c) ∧ w'.cell? ⟨W.heap.size, 1, none⟩ = some (.int .i64 m.d) ∧ w'.cell? ⟨W.heap.size, 2, none⟩ = some (.int .i64 m.s) ∧ w'.cell? ⟨W.heap.size, 3, none⟩ = some (.int .i64 m.e) ∧ w'.cell? ⟨W.heap.size, 4, none⟩ = some (.int .i64 m.l) ∧ w'.cell? ⟨W.heap.size + 1, 0, none⟩ = some (.slice (some ⟨b2, off2, none⟩) sets.length uc) ∧ w'.cell? ⟨bs, offs + x, none⟩ = some (.int .i64 y) ∧ Chg (fun b => (Value.slice oa cnt oc).ownBlock = some b) wr w')
              (first | exact ob_at hne hAt (Chg.refl _ _).drew | exact ob_at hne hAt ((ob_chg (by assumption)).then_below (by assumption)) | exact ob_at hne hAt ((ob_chg (by assumption)).alloc _) | exact ob_at hne hAt ((ob_chg (by assumption)).grown hgrow (fun k hk => .inr (own_lo hown1 (Nat.le_refl _) k hk))) | exact ob_at hne hAt ((ob_chg (by assumption)).grown hgrow2 (fun k hk => .inl hk)) | assumption)
              (first | (go_at_call 85; refine (l01Own_any _ l _ (hVr.mono (S' := fun b => b < W1.heap.size) (fun _ h _ => h) ((ob_chg (by assumption)).keep hoF)) Hp.out (by omega)).mono ?_; rintro e' w' ⟨v1, rfl, hown0, hb⟩; have hzz := Nat.le_trans (ob_chg (by assumption)).size hb.size; have hown1 := own_base hown0 (ob_chg (by assumption)).size; clear hown0; have hB1w : Below wr.heap.size wr w' := (by refine Below.trans ?_ (hb.mono ?_) <;> first | go_grown | (simp; done))) | (refine step_append_lies _ (by rfl) _ _ _ (by rfl) wr.heap.size 2 i0 _ 1 8 Try.underlying29 hi hz0 hz1 hz2 rfl (by omega) _ l.length _ (by rfl) (hown1.alloc _) ⟨_, 0, none⟩ 1 1 [.int .i64 y] (by rfl) (by rfl) (World.news_of_block (heap_alloc_new _ _)) (by simp [Value.oneCell']) (by omega) (by unfold maxLen; omega) (by omega) (by simp; omega) _ rfl ?_; intro gg cap w1 hown2 hgrow hat hlt; have hB2w : Below wr.heap.size wr w1 := (hB1w.alloc hB1w.size _).grown hgrow (by have := hB1w.size; simp; omega) (own_lo hown1 (Nat.le_refl _))) | (refine step_append_lies _ (by rfl) _ _ _ (by rfl) wr.heap.size 2 i0 _ 1 8 Try.underlying29 hi hz0 hz1 hz2 rfl (by omega) _ l.length _ (by rfl) hown1 ⟨_, 0, none⟩ 1 1 [.int .i64 y] (by rfl) (by rfl) (news_old hb) (by simp [Value.oneCell']) (by omega) (by unfold maxLen; omega) (by omega) (by omega) _ rfl ?_; intro gg cap w1 hown2 hgrow hat hlt; have hB2w : Below wr.heap.size wr w1 := hB1w.grown hgrow hB1w.size (own_lo hown1 (Nat.le_refl _))) | (go_at_call 119; refine (IH.out (fun b => wr.heap.size ≤ b) (fun b => b < W1.heap.size) _ _ (l ++ [y]) _ _ (h2r.mono (fun _ h _ => h) ((ob_chg (by assumption)).keep hoF)) (own_V1B hown2 (by simp)) (fun h => by simp at h) (by have := Hlr.out; simp; omega) Hrl.out.1 hmost (by omega)).mono ?_; rintro e' wq ⟨v3, vs3, rfl, hown3, hR3, hbq⟩; have hcn3 := Hrl.out.2.2; rw [hcn3] at hown3; clear hcn3; obtain ⟨a3, c3, rfl, h3c, h3m⟩ := own_form hown3; have hB3w : Below wr.heap.size wr wq := hB2w.trans (hbq.mono hB2w.size); have hownQ := own_keep hownO hB3w) | (obtain ⟨g3, c4, e3, _, _⟩ := own_some hown3 (by omega); cases e3; refine step_append_lies _ (by rfl) _ _ _ (by rfl) W1.heap.size 29 i1 _ 1 24 Try.underlying24 gi gz0 gz1 gz2 rfl (by omega) _ cnt _ (by rfl) hownQ ⟨g3, 0, none⟩ cn _ vs3 (by rfl) hown3.1 (own_news hown3) (RowVs.one hR3) (by omega) (by unfold maxLen; omega) (by omega) (by have := hB3w.size; omega) _ rfl ?_; intro gg2 cap2 wz hownZ hgrow2 hat2 hlt2)) 
            all_goals
              have hz2w := hB2w.size
              have hRq := RowVs.app (HRO.out.below hB3w) (hR3.mono (S' := fun b => (Value.slice oa cnt oc).ownBlock ≠ some b ∧ W.heap.size ≤ b) (fun b h _ => ⟨hoL b (by rcases h with h | h <;> omega), by rcases h with h | h <;> omega⟩))
              have hRz := RowVs.far2 (v1 := .slice (some ⟨gg2, 0, none⟩) (cnt + cn) cap2) hRq hgrow2 (by rcases hat2 with e | e; exact .inl e.symm; exact .inr ⟨gg2, rfl, Nat.le_of_eq e.symm⟩)
              have hBz : Below W1.heap.size W1 wz := (hB.trans (hB3w.mono hzr)).grown hgrow2 (by have := hB3w.size; omega) (own_lo hownQ (Nat.le_refl _))
              have Hfin := Lib.hid (And.intro hownZ (And.intro hRz hBz)); clear hownQ hown3 hR3 hownO hVr h2r hAt hne hownZ hRz hRq hBz
              go_wp2_with fail
              go_roundw
              case rel => exact ⟨x + 1, vs ++ vs3, by omega, by go_num, by rw [Hst.out.1, List.length_append, Hst.out.2, Hrl.out.2.2]; exact Hfin.out.1, by rw [Hst.out.1]; exact Hfin.out.2.1, Hfin.out.2.2⟩
              case measure => simp [intOf]; omega
        · obtain rfl : x = s.length := by omega
          go_wp2_with fail
          go_ret
          exact ⟨_, vs, rfl, own_base Hown.out.1 (by omega), Hown.out.2.mono (fun b h _ => .inr h.2), hB01.trans (hB.mono (by omega))⟩
end Go.Proofs.Ytbckginfipeibaa
