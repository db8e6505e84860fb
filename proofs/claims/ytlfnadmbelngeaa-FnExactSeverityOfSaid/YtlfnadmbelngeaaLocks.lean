/- The locks of all doors for partial cuts, as the program makes them. No conditions. -/
import Derived.Test.YtlfnadmbelngeaaHullI
import Derived.Test.YtlfnadmbelngeaaFits
namespace Go.Proofs.Ytlfnadmbelngeaa
open Go.RowKit
set_option linter.unusedVariables false
set_option linter.unusedSimpArgs false

/-- v is a slice of the call's own (from block B on); its elements hold ls, in memory from block B on, none of it in v's own block. -/
def OutL (B : Nat) (w : World) (v : Value) (ls : List (List (List Int))) : Prop :=
  ∃ vs : List Value, w.ownsRow B 62 1 v ls.length vs ∧ ∀ k, k < ls.length → ∃ rv, vs[k]? = some rv ∧ V2 (fun b => B ≤ b ∧ v.ownBlock ≠ some b) w rv (getll ls k)
theorem OutL.nil {B : Nat} {w : World} {v : Value} (h : w.ownsRow B 62 1 v 0 []) : OutL B w v [] := ⟨[], h, fun k hk => by simp at hk⟩
theorem OutL.start (w : World) (B : Nat) (hb : B ≤ w.heap.size) : OutL B (w.alloc (.cells #[] 62)) (.slice (some ⟨w.heap.size, 0, none⟩) 0 0) [] := OutL.nil (own_lit0 w B _ 1 hb)
theorem OutL.keep {B : Nat} {w w' : World} {v : Value} {ls : List (List (List Int))} (h : OutL B w v ls) (hb : Below w.heap.size w w') : OutL B w' v ls := by
  obtain ⟨vs, h1, h2⟩ := h
  refine ⟨vs, own_chg h1 (Chg.of_below (F := fun _ => False) hb) (fun _ _ h => h), fun k hk => ?_⟩
  obtain ⟨rv, h4, h5⟩ := h2 k hk
  exact ⟨rv, h4, h5.below hb⟩
theorem OutL.form {B : Nat} {w : World} {v : Value} {ls : List (List (List Int))} (h : OutL B w v ls) : ∃ a c, v = .slice a ls.length c ∧ ls.length ≤ c ∧ c ≤ maxLen := by
  obtain ⟨vs, h1, h2⟩ := h; exact own_form h1
theorem OutL.push {B B2 : Nat} {w w2 w1 : World} {v v1 rv : Value} {ls : List (List (List Int))} {l : List (List Int)} {vs : List Value}
    (h1 : w.ownsRow B 62 1 v ls.length vs) (h2 : ∀ k, k < ls.length → ∃ rv, vs[k]? = some rv ∧ V2 (fun b => B ≤ b ∧ v.ownBlock ≠ some b) w rv (getll ls k))
    (hB : B ≤ w.heap.size) (hb : Below w.heap.size w w2) (hx : F2 B2 w2 rv l) (hB2 : w.heap.size ≤ B2)
    (hown : w1.ownsRow B 62 1 v1 (ls.length + 1) (vs ++ [rv])) (hg : w2.grownBy w1 v.ownBlock) (hblk : v1.ownBlock = v.ownBlock ∨ ∃ g, v1.ownBlock = some g ∧ w2.heap.size ≤ g) : OutL B w1 v1 (ls ++ [l]) := by
  have hvl : ∀ g, v.ownBlock = some g → g < w.heap.size := fun g hgg => (h1.lt g hgg).2
  have hne1 : ∀ c, c < w2.heap.size → v.ownBlock ≠ some c → v1.ownBlock ≠ some c := fun c hc hn e => by
    rcases hblk with e1 | ⟨g, e1, hge⟩
    · exact hn (e1.symm.trans e)
    · rw [e] at e1; cases e1; omega
  have hvl1 := h1.1
  have hz := hb.size
  refine ⟨vs ++ [rv], by simpa using hown, fun k hk => ?_⟩
  by_cases hkl : k < ls.length
  · obtain ⟨rv', h4, h5⟩ := h2 k hkl
    refine ⟨rv', by rw [List.getElem?_append_left (by omega)]; exact h4, ?_⟩
    rw [getll_append1 hkl]
    exact h5.mono (fun b hS hlt => ⟨hS.1, hne1 b (by omega) hS.2⟩) (fun b hS hlt => by rw [hg.block b (by omega) (fun e => hS.2 e.symm), hb.block b hlt])
  · have e : k = ls.length := by simp at hk; omega
    subst e
    refine ⟨rv, by rw [List.getElem?_append_right (by omega)]; simp [show ls.length - vs.length = 0 by omega], ?_⟩
    rw [getll_last]
    exact hx.v2.mono (fun b hS hlt => ⟨by have : B2 ≤ b := hS; omega, hne1 b hlt (fun e => by have := hvl b e; have : B2 ≤ b := hS; omega)⟩) (fun b hS hlt => hg.block b hlt (fun e => by have := hvl b e.symm; have : B2 ≤ b := hS; omega))
theorem OutL.v3 {B : Nat} {w : World} {v : Value} {ls : List (List (List Int))} (h : OutL B w v ls) : V3 (fun b => B ≤ b) w v ls := by
  obtain ⟨vs, h1, h2⟩ := h
  have hvl := h1.1
  rcases h1.2 with ⟨rfl, h0⟩ | ⟨g, cap, cur, rfl, hb, hh, hc, hm, hs, ht⟩
  · exact ⟨none, 0, by rw [h0], by omega, Nat.zero_le _, fun k hk => by omega⟩
  · refine ⟨_, cap, rfl, hc, hm, fun k hk => ?_⟩
    obtain ⟨rv, h4, h5⟩ := h2 k hk
    refine ⟨g, 0, rv, rfl, hb, ?_, h5.mono (fun _ h _ => h.1) (fun _ _ _ => rfl)⟩
    have h6 : (cur.toList.take (ls.length * 1))[k]? = vs[k]? := by rw [ht]
    rw [List.getElem?_take, if_pos (by omega), h4] at h6
    rw [Nat.zero_add, cell_of_block hh, ← Array.getElem?_toList, h6]
theorem inf_lock : (Try.prog.info? 62).map (fun i => (i.zero, i.size, i.bytes)) = some (some (.agg #[.slice none 0 0]), 1, 24) := by kernel_rfl

/-- One cell of a slice of locks. -/
theorem V3.cell {S : Nat → Prop} {w : World} {a : Option Addr} {n c k : Nat} {l : List (List (List Int))} (h : V3 S w (.slice a n c) l) (hk : k < l.length) : ∃ b off a' c', a = some ⟨b, off, none⟩ ∧ S b ∧ w.cell? ⟨b, off + k, none⟩ = some (.slice a' (getll l k).length c') ∧ V2 S w (.slice a' (getll l k).length c') (getll l k) := by
  obtain ⟨a', c', e, hl, hm, h⟩ := h
  simp only [Value.slice.injEq] at e
  obtain ⟨rfl, rfl, rfl⟩ := e
  obtain ⟨b, off, ev, ha, hb, hc, hr⟩ := h k hk
  have hr' := hr
  obtain ⟨a2, c2, rfl, _⟩ := hr
  exact ⟨b, off, a2, c2, ha, hb, hc, hr'⟩
theorem V3.form {S : Nat → Prop} {w : World} {v : Value} {l : List (List (List Int))} (h : V3 S w v l) : ∃ a c, v = .slice a l.length c ∧ l.length ≤ 9223372036854775807 := by
  obtain ⟨a, c, rfl, h1, h2, _⟩ := h
  exact ⟨a, c, rfl, by unfold maxLen at h2; omega⟩
theorem V3.any {S : Nat → Prop} {w : World} {v : Value} {l : List (List (List Int))} (h : V3 S w v l) : V3 (fun _ => True) w v l := h.mono (fun _ _ _ => trivial) (fun _ _ _ => rfl)
theorem doorCuts_lens {m : Mk} {t cuts : List (List Int)} {n d : Nat} (hf : Fits m t cuts) (hn : (n : Int) = m.c) : ∀ k, k < (doorCuts t cuts d cuts.length).length → (getl (doorCuts t cuts d cuts.length) k).length = n := fun k hk => by
  obtain ⟨i, h1, h2, _⟩ := mem_doorCuts (getl_mem hk)
  rw [h2]
  have := hf.lens i h1
  omega
theorem doorCuts_deps {m : Mk} {t cuts : List (List Int)} {n d : Nat} (hf : Fits m t cuts) (hn : (n : Int) = m.c) : ∀ k, k < (doorCuts t cuts d cuts.length).length → ∀ i, i < n → 0 ≤ geti (getl (doorCuts t cuts d cuts.length) k) i ∧ geti (getl (doorCuts t cuts d cuts.length) k) i ≤ m.d - 1 := fun k hk i hi => by
  obtain ⟨j, h1, h2, _⟩ := mem_doorCuts (getl_mem hk)
  rw [h2]
  exact hf.deps j h1 i (by have := hf.lens j h1; omega)

set_option maxRecDepth 100000 in
set_option maxHeartbeats 2000000 in
theorem partLocks_any {S S' : Nat → Prop} (m : Mk) (u v : Value) (t cuts : List (List Int)) (n : Nat) (W : World) (hf : Fits m t cuts) (hn : (n : Int) = m.c) (h : V2 S W u t) (hc : V2 S' W v cuts) :
    Calls Try.prog 54 #[.agg #[.int .i64 m.c, .int .i64 m.d, .int .i64 m.s, .int .i64 m.e, .int .i64 m.l, u], v] W fun e' w' => ∃ v', e' = .returned v' ∧ V3 (fun b => W.heap.size ≤ b) w' v' (locksTo n t cuts (getl t 0).length) ∧ Below W.heap.size W w' := by
  obtain ⟨a, c, rfl, hmx⟩ := h.form
  obtain ⟨a', c', rfl, hmx'⟩ := hc.form
  have hrows := hf.rows
  have hdoors := hf.doors
  have hfew := hf.few
  have hok := hf.ok
  have hcols := hf.cols
  have hlk := fun d => doorCuts_lens (d := d) hf hn
  have Hcols := Lib.hid hcols; clear hcols
  have Hlk := Lib.hid hlk; clear hlk
  have Hok := Lib.hid (And.intro hok hn); clear hok hf hn
  obtain ⟨W1, hW1, hB01, hz01, HZ01, hc01, hh01⟩ := box_facts W #[.int .i64 m.c, .int .i64 m.d, .int .i64 m.s, .int .i64 m.e, .int .i64 m.l, .slice a t.length c] 34
  have hV1 := (h.below hB01).any
  have hC1 := (hc.below hB01).any
  obtain ⟨b0, off0, a0, c0, rfl, _, hcc0, hr0⟩ := h.cell (k := 0) (by omega)
  simp only [Nat.add_zero] at hcc0
  have hcA : ∀ o1 o2, ((W.alloc o1).alloc o2).cell? ⟨b0, off0, none⟩ = some (.slice a0 (getl t 0).length c0) := fun o1 o2 => cell_keep hcc0 ((show Below W.heap.size W ((W.alloc o1).alloc o2) from by go_grown).block _ (lt_of_cell hcc0))
  have hl0 := hr0.len
  unfold maxLen at hl0
  have hout0 := OutL.start W1 W1.heap.size (Nat.le_refl _)
  have Hout0 := Lib.hid hout0; clear hout0
  go_enter Try.func54, Try.ntmps54
  go_wp2_with fail
  rw [← hW1, show W.heap.size + 1 = W1.heap.size from HZ01.out.symm]
  have HW1 := Lib.hid hW1; clear hW1 hh01
  have Hc01 := Lib.hid hc01; clear hc01
  have Hcc0 := Lib.hid hcc0; clear hcc0 hcA
  go_loopw [5, 6, 7, 9, 16] (fun ou _ _ _ i wr => ∃ x : Nat, x ≤ (getl t 0).length ∧ i = .int .i64 (x : Int) ∧ OutL W1.heap.size wr ou (locksTo n t cuts x) ∧ Below W1.heap.size W1 wr) (fun _ _ _ _ i _ => (getl t 0).length - (intOf i).toNat)
  case atStart => exact ⟨0, Nat.zero_le _, rfl, Hout0.out, (Below.refl _ _).alloc (Nat.le_refl _) _⟩
  case round =>
    obtain ⟨x, hx, rfl, hO, hB⟩ := hrel
    obtain ⟨wo, rfl⟩ : ∃ wo, wo = wr := ⟨_, rfl⟩
    have hzr := hB.size
    by_cases hxn : x < (getl t 0).length
    · obtain ⟨B, hB0⟩ : ∃ B, B = wo.heap.size := ⟨_, rfl⟩
      have hdd : ∀ j, j < t.length → x < (getl t j).length := fun j hj => by rw [Hcols.out j hj]; exact hxn
      have Hdd := Lib.hid hdd; clear hdd
      have hown0 := own_lit0 wo B 27 1 (by omega)
      have HO := Lib.hid hO; clear hO
      have hzo : W.heap.size < wo.heap.size := by omega
      have hxo : ∀ o, wo.cell? ⟨W.heap.size, o, none⟩ = (#[.int .i64 m.c, .int .i64 m.d, .int .i64 m.s, .int .i64 m.e, .int .i64 m.l, .slice (some ⟨b0, off0, none⟩) t.length c] : Array Value)[o]? := fun o => by rw [(bcell hB).1 _ _ hz01, Hc01.out]
      go_wp2_with fail
      refine (rowsFor_any m _ t x _ (hV1.below (hB.alloc hzr _)) Hdd.out (by omega)).mono ?_
      rintro e' w3 ⟨v3, rfl, hF, hb3⟩
      have hb03 : Below B wo w3 := ((Below.refl _ _).alloc (by omega) _).trans (hb3.mono (by simp; omega))
      have hB3 := hB.trans (hb03.mono (by omega))
      have hz3 := hb3.size
      simp only [World.size_alloc] at hz3
      have hown3 : w3.ownsRow B 27 1 (.slice (some ⟨wo.heap.size, 0, none⟩) 0 0) 0 [] := own_keep hown0 hb3
      have hrl := rowsF_len t x t.length
      obtain ⟨a3, c3, rfl, hl3⟩ := hF.v1.form
      have hV3 : V1 (fun b => B < b ∧ b < w3.heap.size) w3 (.slice a3 (rowsF t x t.length).length c3) (rowsF t x t.length) := hF.v1.mono (fun b h1 h2 => ⟨by simp at h1; omega, h2⟩) (fun _ _ _ => rfl)
      have hmem : ∀ j, j < (rowsF t x t.length).length → ∃ i : Nat, geti (rowsF t x t.length) j = i ∧ i < t.length := fun j hj => by
        obtain ⟨i, h1, h2, _⟩ := mem_rowsF.1 (geti_mem hj)
        exact ⟨i, h2, h1⟩
      have hall : cutsAt cuts cuts.length (rowsF t x t.length) = doorCuts t cuts x cuts.length := by rw [cutsAt_all, Nat.min_eq_right hfew]
      have Hmem := Lib.hid hmem; clear hmem
      have Hall := Lib.hid hall; clear hall
      clear hF hown0 hb3 hxo
      generalize rowsF t x t.length = rs at *
      go_wp2_with fail
      go_loopw [7, 9, 24] (fun o _ i wn => ∃ (j : Nat) (vs : List Value), j ≤ rs.length ∧ i = .int .i64 (j : Int) ∧ wn.ownsRow B 27 1 o (cutsAt cuts cuts.length (rs.take j)).length vs ∧ RowVs (fun _ => True) W1 vs (cutsAt cuts cuts.length (rs.take j)) ∧ V1 (fun b => B < b ∧ b < w3.heap.size) wn (.slice a3 rs.length c3) rs ∧ (∀ g, o.ownBlock = some g → g = B ∨ w3.heap.size ≤ g) ∧ w3.heap.size ≤ wn.heap.size ∧ Below B wo wn) (fun _ _ i _ => rs.length - (intOf i).toNat)
      case atStart => exact ⟨0, [], Nat.zero_le _, rfl, hown3, RowVs.nil, hV3, fun g hg => .inl (by cases hg; exact hB0.symm), Nat.le_refl _, hb03⟩
      case round =>
        obtain ⟨j, vs, hj, rfl, hown, hR, hVn, hob, hzn, hBn⟩ := hrel
        have hBW := hB.trans (hBn.mono (by omega))
        have hcl := cutsAt_len cuts cuts.length (rs.take j)
        have htl : (rs.take j).length ≤ j := List.length_take_le _ _
        by_cases hjj : j < rs.length
        · obtain ⟨i, he, hit⟩ := Hmem.out j hjj
          obtain ⟨b2, off2, rfl, _, hc2⟩ := hVn.cell hjj
          rw [he] at hc2
          have hstep := cutsAt_step (cuts := cuts) (n := cuts.length) hjj
          rw [he] at hstep
          by_cases hic : i < cuts.length
          · rw [if_pos (by omega)] at hstep
            simp only [Int.toNat_natCast] at hstep
            obtain ⟨b1, off1, a1, c1, rfl, _, hc1', hr1'⟩ := hC1.cell hic
            have hc1 := cell_keep hc1' (hBW.block _ (lt_of_cell hc1'))
            clear hc1'
            have hcd : decide ((i : Int) < (cuts.length : Int)) = true := by simp; omega
            have hcap := hC1.cap
            have Hst := Lib.hid hstep; clear hstep
            have He := Lib.hid he; clear he
            have hgl : (getl cuts i).length ≤ maxLen := hr1'.len
            unfold maxLen at hgl
            go_wp2_with (at_builtin; refine wp_app1 _ rfl _ _ 24 rfl B 27 (.slice none 0 0) 24 Try.underlying24 inf_ints rfl _ _ _ rfl hown (.slice a1 (getl cuts i).length c1) _ rfl rfl (by omega) (by omega) (by omega) ?_; intro v1 w1 hown1 hgrow1 hblk1 hB1)
            go_roundw
            case rel =>
              refine ⟨j + 1, _, by omega, by go_num, by rw [Hst.out, List.length_append]; exact hown1, by rw [Hst.out]; exact hR.snoc hr1', hVn.mono (fun _ h _ => h) (grow_keep hgrow1 fun g hg hS => ?_), fun g hg => ?_, ?_, hBn.trans (hB1.mono (Nat.le_refl _))⟩
              · rcases hob g hg with h | h <;> omega
              · rcases hblk1 with h | ⟨g', h, hg'⟩
                · exact hob g (h.symm.trans hg)
                · rw [hg] at h; cases h; right; omega
              · have := hB1.size; omega
            case measure => simp [intOf]; omega
          · rw [if_neg (by omega), List.append_nil] at hstep
            have hcd : decide ((i : Int) < (cuts.length : Int)) = false := by simp; omega
            have Hst := Lib.hid hstep; clear hstep
            have He := Lib.hid he; clear he
            go_wp2_with fail
            go_roundw
            case rel => exact ⟨j + 1, _, by omega, by go_num, by rw [Hst.out]; exact hown, by rw [Hst.out]; exact hR, hVn, hob, hzn, hBn⟩
            case measure => simp [intOf]; omega
        · obtain rfl : j = rs.length := by omega
          rw [List.take_length, Hall.out] at hown hR
          have hV4 := own_V2 hown (hR.keep (Below.keep hBW fun _ _ h => h))
          have hdl := doorCuts_len t cuts x cuts.length
          have hxr : ∀ o, wr.cell? ⟨W.heap.size, o, none⟩ = (#[.int .i64 m.c, .int .i64 m.d, .int .i64 m.s, .int .i64 m.e, .int .i64 m.l, .slice (some ⟨b0, off0, none⟩) t.length c] : Array Value)[o]? := fun o => by rw [(bcell hBW).1 _ _ hz01, Hc01.out]
          obtain ⟨ka, kc, rfl, hkc1, hkc2⟩ := own_form hown
          clear hown hR hob hVn
          go_wp2_with fail
          refine (hullOf_any m Hok.out.1 _ (doorCuts t cuts x cuts.length) n _ Hok.out.2 hV4 (by omega) (Hlk.out x)).mono ?_
          rintro e' w4 ⟨v4, rfl, hF4, hb4⟩
          obtain ⟨vs4, g1, g2⟩ := HO.out
          have hBo4 : Below wo.heap.size wo w4 := (hBn.mono (by omega)).trans (hb4.mono (by omega))
          have hO4 := own_chg g1 (Chg.of_below (F := fun _ => False) hBo4) (fun _ _ h => h)
          have hz4 := hBo4.size
          obtain ⟨a4, c4, rfl, _⟩ := hF4.v2.form
          have hln := Nat.le_of_eq (hullR_len (doorCuts t cuts x cuts.length) n)
          have hlx := Nat.le_of_eq (locksTo_len n t cuts x)
          have G := Lib.hid (And.intro g1 (And.intro g2 hF4)); clear g1 g2 hF4 hV4 hxr
          go_wp2_with (at_builtin; refine wp_app1 _ rfl _ _ 66 rfl W1.heap.size 62 (.agg #[.slice none 0 0]) 24 Try.underlying66 inf_lock rfl _ _ _ rfl hO4 (.slice a4 (hullR (doorCuts t cuts x cuts.length) n).length c4) _ rfl rfl (by omega) (by omega) (by omega) ?_; intro v1 w1 hown1 hgrow1 hblk1 hB1)
          go_roundw
          case rel => exact ⟨x + 1, by omega, by go_num, by rw [locksTo]; exact OutL.push G.out.1 G.out.2.1 hzr hBo4 G.out.2.2 (by omega) hown1 hgrow1 hblk1, (hB.trans (hBo4.mono hzr)).trans hB1⟩
          case measure => simp [intOf]; omega
    · obtain rfl : x = (getl t 0).length := by omega
      have hfx := hO.v3
      have Hfx := Lib.hid hfx; clear hfx
      go_wp2_with fail
      go_ret
      exact ⟨_, rfl, Hfx.out.mono (fun b h _ => by have : W1.heap.size ≤ b := h; omega) (fun _ _ _ => rfl), hB01.trans (hB.mono (by omega))⟩
end Go.Proofs.Ytlfnadmbelngeaa
