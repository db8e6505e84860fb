/- What the program and the reference answer on the least number of wafers for a system. No conditions. -/
import Derived.Test.YtcdgechaehljgaaSys2
import Derived.Test.YtcdgechaehljgaaWafers
import Derived.Deep.RegionHeld3
namespace Go.Proofs.Ytcdgechaehljgaa
open Go.RowKit
set_option linter.unusedVariables false

/-- Values of rows ls. -/
def RowVs (S : Nat → Prop) (w : World) (vs : List Value) (ls : List (List Int)) : Prop :=
  vs.length = ls.length ∧ ∀ k, k < ls.length → ∃ ev, vs[k]? = some ev ∧ V1 S w ev (getl ls k)
theorem RowVs.nil {S : Nat → Prop} {w : World} : RowVs S w [] [] := ⟨rfl, fun k hk => by simp at hk⟩
theorem getl_append1 {ls : List (List Int)} {l : List Int} {k : Nat} (h : k < ls.length) : getl (ls ++ [l]) k = getl ls k := by
  simp [getl, List.getElem?_append_left h]
theorem getl_last {ls : List (List Int)} {l : List Int} : getl (ls ++ [l]) ls.length = l := by
  unfold getl; simp
theorem RowVs.snoc {S : Nat → Prop} {w : World} {vs : List Value} {ls : List (List Int)} {v : Value} {l : List Int} (h : RowVs S w vs ls) (hv : V1 S w v l) : RowVs S w (vs ++ [v]) (ls ++ [l]) := by
  refine ⟨by simp [h.1], fun k hk => ?_⟩
  by_cases hkk : k < ls.length
  · obtain ⟨ev, h1, h2⟩ := h.2 k hkk
    exact ⟨ev, by rw [List.getElem?_append_left (by rw [h.1]; exact hkk)]; exact h1, by rw [getl_append1 hkk]; exact h2⟩
  · have e : k = ls.length := by simp at hk; omega
    subst e
    exact ⟨v, by rw [← h.1]; simp, by rw [getl_last]; exact hv⟩
theorem RowVs.below {S : Nat → Prop} {w w' : World} {vs : List Value} {ls : List (List Int)} (h : RowVs S w vs ls) (hb : Below w.heap.size w w') : RowVs S w' vs ls :=
  ⟨h.1, fun k hk => by obtain ⟨ev, h1, h2⟩ := h.2 k hk; exact ⟨ev, h1, h2.below hb⟩⟩
theorem RowVs.keep {S : Nat → Prop} {w w' : World} {vs : List Value} {ls : List (List Int)} (h : RowVs S w vs ls) (hb : Keep S w w') : RowVs S w' vs ls :=
  ⟨h.1, fun k hk => by obtain ⟨ev, h1, h2⟩ := h.2 k hk; exact ⟨ev, h1, h2.mono (fun _ h _ => h) hb⟩⟩
theorem own_V2 {w : World} {B : Nat} {e : TypeId} {v : Value} {n : Nat} {vs : List Value} {ls : List (List Int)} (h : w.ownsRow B e 1 v n vs) (hr : RowVs (fun _ => True) w vs ls) : V2 (fun _ => True) w v ls := by
  obtain ⟨hl, h⟩ := h
  have hn : n = ls.length := by have := hr.1; omega
  subst hn
  rcases h with ⟨rfl, h0⟩ | ⟨g, cap, cur, rfl, hb, hh, hc, hm, hs, ht⟩
  · exact ⟨none, 0, by rw [h0], by omega, Nat.zero_le _, fun k hk => by omega⟩
  · refine ⟨_, _, rfl, hc, hm, fun k hk => ?_⟩
    obtain ⟨ev, h1, h2⟩ := hr.2 k hk
    refine ⟨g, 0, ev, rfl, trivial, ?_, h2⟩
    have h3 : (cur.toList.take (ls.length * 1))[k]? = vs[k]? := by rw [ht]
    rw [List.getElem?_take, if_pos (by omega), h1] at h3
    rw [cell_of_block hh, Nat.zero_add, ← Array.getElem?_toList, h3]

theorem own_keep {w w' : World} {B : Nat} {e : TypeId} {v : Value} {n : Nat} {xs : List Value} (h : w.ownsRow B e 1 v n xs) (hb : Below w.heap.size w w') : w'.ownsRow B e 1 v n xs := by
  refine ⟨h.1, ?_⟩
  rcases h.2 with h0 | ⟨g, cap, cur, rfl, h1, h2, h3⟩
  · exact .inl h0
  · exact .inr ⟨g, cap, cur, rfl, h1, by rw [hb.block g (lt_of_heap h2)]; exact h2, h3⟩

theorem grow_keep {S : Nat → Prop} {w w' : World} {ob : Option Nat} (hg : w.grownBy w' ob) (h : ∀ g, ob = some g → ¬ S g) : Keep S w w' := fun b hb hlt => hg.block b hlt (fun e => h b e.symm hb)

/-- The rows that open door d, among the first k. -/
def doorRows (t : List (List Int)) (d : Nat) : Nat → List (List Int)
  | 0 => []
  | k + 1 => if geti (getl t k) d = 1 then doorRows t d k ++ [getl t k] else doorRows t d k
theorem doorRows_len (t : List (List Int)) (d : Nat) : ∀ k, (doorRows t d k).length ≤ k
  | 0 => Nat.le_refl _
  | k + 1 => by have := doorRows_len t d k; unfold doorRows; split <;> simp <;> omega
theorem doorRows_map (t : List (List Int)) (d : Nat) : ∀ k, doorRows t d k = (rowsF t d k).map fun x => getl t x.toNat
  | 0 => rfl
  | k + 1 => by
    rw [doorRows, rowsF, doorRows_map t d k]
    split
    · simp
    · rfl
/-- The sum of f from k to n; none where one is below 0. -/
def sumUp (f : Nat → Int) : Nat → Nat → Int → Int × Int
  | 0, _, acc => (acc, 0)
  | n + 1, k, acc => if f k < 0 then (0, 4) else sumUp f n (k + 1) (acc + f k)
theorem sumUp_step {f : Nat → Int} {n k : Nat} {acc : Int} (h : k < n) : sumUp f (n - k) k acc = if f k < 0 then (0, 4) else sumUp f (n - (k + 1)) (k + 1) (acc + f k) := by
  obtain ⟨m, hm⟩ : ∃ m, n - k = m + 1 := ⟨n - k - 1, by omega⟩
  rw [hm, sumUp, show n - (k + 1) = m from by omega]
def doorLeast (m : Mk) (t : List (List Int)) (d : Nat) : Int := leastW m.c.toNat m.d.toNat (diffR (doorRows t d t.length))
def leastAns (m : Mk) (t : List (List Int)) : Int × Int := if isSys m t = true then sumUp (doorLeast m t) (getl t 0).length 0 0 else (0, 1)
theorem doorLeast_le {m : Mk} {t : List (List Int)} {d : Nat} (h : m.ok = true) : doorLeast m t d ≤ 42 := by
  have hk := isMk_iff.1 h
  unfold doorLeast
  rcases upFrom_ok (enough m.c.toNat (diffR (doorRows t d t.length))) (m.c.toNat * (m.d.toNat - 1) + 1) 0 with h1 | h1
  · unfold leastW; omega
  · have := mul42 (c := m.c.toNat) (d := m.d.toNat) (by omega) (by omega)
    unfold leastW; omega

theorem maker_keep {b : Nat} {w0 w w' : World} {c0 c1 c2 c3 c4 : Value} (h : w.cell? ⟨b, 0, none⟩ = some c0 ∧ w.cell? ⟨b, 1, none⟩ = some c1 ∧ w.cell? ⟨b, 2, none⟩ = some c2 ∧ w.cell? ⟨b, 3, none⟩ = some c3 ∧ w.cell? ⟨b, 4, none⟩ = some c4 ∧ Below w0.heap.size w0 w) (hb : Below w.heap.size w w') :
    w'.cell? ⟨b, 0, none⟩ = some c0 ∧ w'.cell? ⟨b, 1, none⟩ = some c1 ∧ w'.cell? ⟨b, 2, none⟩ = some c2 ∧ w'.cell? ⟨b, 3, none⟩ = some c3 ∧ w'.cell? ⟨b, 4, none⟩ = some c4 ∧ Below w0.heap.size w0 w' := by
  obtain ⟨h0, h1, h2, h3, h4, h5⟩ := h
  have hk := hb.block b (lt_of_cell h0)
  refine ⟨cell_keep h0 hk, cell_keep h1 hk, cell_keep h2 hk, cell_keep h3 hk, cell_keep h4 hk, h5.trans (hb.mono h5.size)⟩

theorem maker_below {b : Nat} {w0 w : World} {c0 c1 c2 c3 c4 : Value} (h : w.cell? ⟨b, 0, none⟩ = some c0 ∧ w.cell? ⟨b, 1, none⟩ = some c1 ∧ w.cell? ⟨b, 2, none⟩ = some c2 ∧ w.cell? ⟨b, 3, none⟩ = some c3 ∧ w.cell? ⟨b, 4, none⟩ = some c4 ∧ Below w0.heap.size w0 w) : Below w0.heap.size w0 w := h.2.2.2.2.2

set_option maxRecDepth 100000 in
theorem LeastWafers_any {S : Nat → Prop} (m : Mk) (u : Value) (t : List (List Int)) (W : World) (h : V2 S W u t) :
    Calls Try.prog 18 #[.agg #[.int .i64 m.c, .int .i64 m.d, .int .i64 m.s, .int .i64 m.e, .int .i64 m.l, u]] W fun e' w' => e' = .returned (.tuple #[.int .i64 (leastAns m t).1, .int .i64 (leastAns m t).2]) ∧ Below W.heap.size W w' := by
  have hV := h
  obtain ⟨a, c, rfl, hm⟩ := h.form
  obtain ⟨W1, hW1, hB01, hz01, HZ01, hc01, hh01⟩ := box_facts W #[.int .i64 m.c, .int .i64 m.d, .int .i64 m.s, .int .i64 m.e, .int .i64 m.l, .slice a t.length c] 32
  have hV1 : V2 (fun _ => True) W1 (.slice a t.length c) t := (hV.below hB01).mono (fun _ _ _ => trivial) (fun _ _ _ => rfl)
  cases hs : isSys m t
  · have hfin : leastAns m t = (0, 1) := by rw [leastAns, if_neg (by rw [hs]; decide)]
    rw [hfin]
    have Hs := Lib.hid hs; clear hs
    go_enter Try.func18, Try.ntmps18
    go_wp2_with fail
    rw [← hW1]
    refine (isSystem_b m _ t _ _ Hs.out hV1).mono ?_
    rintro e' w2 ⟨rfl, hb2⟩
    clear hc01 hh01
    go_wp2_with fail
    go_ret2
    exact ⟨rfl, hB01.trans (hb2.mono (by omega))⟩
  · have hfin : leastAns m t = sumUp (doorLeast m t) ((getl t 0).length - 0) 0 0 := by rw [leastAns, if_pos hs]; rfl
    obtain ⟨hok, htab, _⟩ : m.ok = true ∧ isTab t = true ∧ True := by
      simp only [isSys, Bool.and_eq_true] at hs; exact ⟨hs.1, hs.2.1, trivial⟩
    obtain ⟨htl, htr⟩ := isTab_iff.1 htab
    have ht0 := (htr 0 (by omega)).2.1
    have hcols : ∀ k, k < t.length → (getl t k).length = (getl t 0).length := fun k hk => (htr k hk).1
    have hle : ∀ d, doorLeast m t d ≤ 42 := fun d => doorLeast_le hok
    have hdl : ∀ d, doorLeast m t d = leastW m.c.toNat m.d.toNat (diffR (doorRows t d t.length)) := fun _ => rfl
    have hmk := isMk_iff.1 hok
    obtain ⟨mc, md, ms, me, ml⟩ := m
    simp only at hmk hdl
    obtain ⟨mc, rfl⟩ : ∃ n : Nat, mc = n := ⟨mc.toNat, by omega⟩
    obtain ⟨md, rfl⟩ : ∃ n : Nat, md = n := ⟨md.toNat, by omega⟩
    simp only [Int.toNat_natCast] at hdl
    obtain ⟨hc1, hc2, hd1, hd2⟩ : 1 ≤ mc ∧ mc ≤ 6 ∧ 1 ≤ md ∧ md ≤ 8 := by omega
    clear hmk hok htab
    have Hs := Lib.hid hs; clear hs
    have Hf := Lib.hid hfin; clear hfin
    have Hdl := Lib.hid hdl; clear hdl
    have Hle := Lib.hid hle; clear hle
    have Hcols := Lib.hid hcols; clear hcols htr
    obtain ⟨b0, off0, a0, c0, rfl, _, hcc0, hr0⟩ := hV1.cell (k := 0) (by omega)
    simp only [Nat.add_zero] at hcc0
    simp only at hc01 hh01
    go_enter Try.func18, Try.ntmps18
    go_wp2_with fail
    rw [← hW1]
    refine (isSystem_b ⟨mc, md, ms, me, ml⟩ _ t _ _ Hs.out hV1).mono ?_
    rintro e' w2 ⟨rfl, hb2⟩
    have hx2 : ∀ o, w2.cell? ⟨W.heap.size, o, none⟩ = (#[.int .i64 mc, .int .i64 md, .int .i64 ms, .int .i64 me, .int .i64 ml, .slice (some ⟨b0, off0, none⟩) t.length c] : Array Value)[o]? := fun o => by rw [(bcell hb2).1 _ _ hz01, hc01]
    have hcc2 : w2.cell? ⟨b0, off0, none⟩ = some (.slice a0 (getl t 0).length c0) := cell_keep hcc0 (hb2.block _ (lt_of_cell hcc0))
    have Hc01 := Lib.hid hc01; clear hc01
    have Hh01 := Lib.hid hh01; clear hh01
    have HW1 := Lib.hid hW1; clear hW1
    clear hcc0
    go_wp2_with fail
    have Hx2 := Lib.hid hx2; clear hx2
    go_loopw [4, 5, 6, 8, 9, 18] (fun al _ _ _ _ i wr => ∃ (k : Nat) (acc : Int), k ≤ (getl t 0).length ∧ i = .int .i64 k ∧ al = .int .i64 acc ∧ 0 ≤ acc ∧ acc ≤ 42 * k ∧ leastAns ⟨mc, md, ms, me, ml⟩ t = sumUp (doorLeast ⟨mc, md, ms, me, ml⟩ t) ((getl t 0).length - k) k acc ∧ Below W1.heap.size W1 wr) (fun _ _ _ _ _ i _ => (getl t 0).length - (intOf i).toNat)
    case atStart => exact ⟨0, 0, Nat.zero_le _, rfl, rfl, by omega, by omega, Hf.out, hb2⟩
    case round =>
      obtain ⟨k, acc, hk, rfl, rfl, hacc0, hacc1, hrem, hB⟩ := hrel
      have Hr := Lib.hid hrem; clear hrem
      have hx : ∀ o, wr.cell? ⟨W.heap.size, o, none⟩ = (#[.int .i64 mc, .int .i64 md, .int .i64 ms, .int .i64 me, .int .i64 ml, .slice (some ⟨b0, off0, none⟩) t.length c] : Array Value)[o]? := fun o => by rw [(bcell hB).1 _ _ hz01, Hc01.out]
      by_cases hkk : k < (getl t 0).length
      · have hdd : ∀ j, j < t.length → k < (getl t j).length := fun j hj => by rw [Hcols.out j hj]; exact hkk
        have Hdd := Lib.hid hdd; clear hdd
        have hzr : W.heap.size < wr.heap.size := by have := hB.size; omega
        have hBz := hB.size
        obtain ⟨B0, hB0⟩ : ∃ B0, B0 = wr.heap.size := ⟨_, rfl⟩
        go_wp2_with fail
        refine (rowsFor_any ⟨mc, md, ms, me, ml⟩ _ t k _ (hV1.below (hB.alloc hBz _)) Hdd.out (by omega)).mono ?_
        rintro e' w3 ⟨v3, rfl, hF, hb3⟩
        have hown0 := own_lit0 wr W1.heap.size 43 1 hBz
        have hB3 := (hB.alloc hBz _).trans (hb3.mono (by simp; omega))
        have hz3 := hb3.size
        simp only [World.size_alloc] at hz3
        have hown3 : w3.ownsRow W1.heap.size 43 1 (.slice (some ⟨wr.heap.size, 0, none⟩) 0 0) 0 [] := own_keep hown0 hb3
        have hrl := rowsF_len t k t.length
        obtain ⟨a3, c3, rfl, hl3⟩ := hF.v1.form
        have hV3 : V1 (fun b => B0 < b ∧ b < w3.heap.size) w3 (.slice a3 (rowsF t k t.length).length c3) (rowsF t k t.length) := hF.v1.mono (fun b h1 h2 => ⟨by simp at h1; omega, h2⟩) (fun _ _ _ => rfl)
        have hmem : ∀ j, j < (rowsF t k t.length).length → ∃ i : Nat, geti (rowsF t k t.length) j = i ∧ i < t.length := fun j hj => by
          obtain ⟨i, h1, h2, _⟩ := mem_rowsF.1 (geti_mem hj)
          exact ⟨i, h2, h1⟩
        have hmap := doorRows_map t k t.length
        have hz3' := hB3.size
        have Hmem := Lib.hid hmem; clear hmem
        have Hmap := Lib.hid hmap; clear hmap
        clear hF hown0 hb3
        generalize rowsF t k t.length = rs at *
        have Hx := Lib.hid hx; clear hx
        have Hdd' := Hdd; clear Hdd
        go_wp2_with fail
        go_loopw [6, 8, 26] (fun o _ i wn => ∃ (j : Nat) (vs : List Value), j ≤ rs.length ∧ i = .int .i64 j ∧ wn.ownsRow W1.heap.size 43 1 o j vs ∧ RowVs (fun _ => True) W1 vs ((rs.take j).map fun x => getl t x.toNat) ∧ V1 (fun b => B0 < b ∧ b < w3.heap.size) wn (.slice a3 rs.length c3) rs ∧ (∀ g, o.ownBlock = some g → g = B0 ∨ w3.heap.size ≤ g) ∧ w3.heap.size ≤ wn.heap.size ∧ Below W1.heap.size W1 wn) (fun _ _ i _ => rs.length - (intOf i).toNat)
        case atStart => exact ⟨0, [], Nat.zero_le _, rfl, hown3, RowVs.nil, hV3, fun g hg => .inl (by cases hg; exact hB0.symm), Nat.le_refl _, hB3⟩
        case round =>
          obtain ⟨j, vs, hj, rfl, hown, hR, hVn, hob, hzn, hBn⟩ := hrel
          have hzn1 : W.heap.size < wr.heap.size := by omega
          have hxn : ∀ o, wr.cell? ⟨W.heap.size, o, none⟩ = (#[.int .i64 mc, .int .i64 md, .int .i64 ms, .int .i64 me, .int .i64 ml, .slice (some ⟨b0, off0, none⟩) t.length c] : Array Value)[o]? := fun o => by rw [(bcell hBn).1 _ _ hz01, Hc01.out]
          by_cases hjj : j < rs.length
          · obtain ⟨i, he, hit⟩ := Hmem.out j hjj
            obtain ⟨b2, off2, rfl, _, hc2⟩ := hVn.cell hjj
            rw [he] at hc2
            obtain ⟨b1, off1, a1, c1, e1, _, hc1, hr1⟩ := (hV1.below hBn).cell hit
            obtain ⟨b1', off1', a1', c1', e1', _, hc1', hr1'⟩ := hV1.cell hit
            simp only [Option.some.injEq, Addr.mk.injEq, and_true] at e1 e1'
            obtain ⟨rfl, rfl⟩ := e1
            obtain ⟨rfl, rfl⟩ := e1'
            have hee := cell_keep hc1' (hBn.block _ (lt_of_cell hc1'))
            rw [hc1] at hee
            injection hee with hee
            injection hee with e1 _ e3
            subst e1; subst e3
            have hst : (rs.take (j + 1)).map (fun x => getl t x.toNat) = (rs.take j).map (fun x => getl t x.toNat) ++ [getl t i] := by
              rw [take_geti hjj, he]; simp
            have Hst := Lib.hid hst; clear hst
            have He := Lib.hid he; clear he
            clear hc1'
            have hgl : (getl t i).length ≤ maxLen := hr1.len
            unfold maxLen at hgl
            go_wp2_with (at_builtin; refine wp_app1 _ rfl _ _ 24 rfl W1.heap.size 43 (.slice none 0 0) 24 Try.underlying24 inf_ints rfl _ _ _ rfl hown (.slice a1 (getl t i).length c1) _ rfl rfl (by omega) (by omega) (by omega) ?_; intro v1 w1 hown1 hgrow1 hblk1 hB1)
            go_roundw
            case rel =>
              refine ⟨j + 1, _, by omega, by go_num, hown1, by rw [Hst.out]; exact hR.snoc hr1', hVn.mono (fun _ h _ => h) (grow_keep hgrow1 fun g hg hS => ?_), fun g hg => ?_, ?_, hBn.trans (hB1.mono (Nat.le_refl _))⟩
              · rcases hob g hg with h | h <;> omega
              · rcases hblk1 with h | ⟨g', h, hg'⟩
                · exact hob g (h.symm.trans hg)
                · rw [hg] at h; cases h; right; omega
              · have := hB1.size; omega
            case measure => simp [intOf]; omega
          · obtain rfl : j = rs.length := by omega
            have hV4 := own_V2 hown (hR.keep (Below.keep hBn fun _ _ h => h))
            rw [List.take_length] at hV4
            have hV5 : V2 (fun _ => True) wr u6 (doorRows t k t.length) := by rw [Hmap.out]; exact hV4
            clear hV4
            have hdr := Hdl.out k
            have Hdr := Lib.hid hdr; clear hdr
            have hle := Hle.out k
            generalize hDL : doorLeast ⟨mc, md, ms, me, ml⟩ t k = dl at *
            have HDL := Lib.hid hDL; clear hDL
            have hcell0 := hxn 0
            have hcell1 := hxn 1
            have hcell2 := hxn 2
            have hcell3 := hxn 3
            have hcell4 := hxn 4
            simp at hcell0 hcell1 hcell2 hcell3 hcell4
            have Hxn := Lib.hid hxn; clear hxn
            have hlow := leastW_ok mc md (diffR (doorRows t k t.length))
            rw [← Hdr.out] at hlow
            by_cases hneg : dl < 0
            · go_wp2_with fail
              go_region_held3 (fun w' => w'.cell? ⟨W.heap.size, 0, none⟩ = some (.int .i64 mc) ∧ w'.cell? ⟨W.heap.size, 1, none⟩ = some (.int .i64 md) ∧ w'.cell? ⟨W.heap.size, 2, none⟩ = some (.int .i64 ms) ∧ w'.cell? ⟨W.heap.size, 3, none⟩ = some (.int .i64 me) ∧ w'.cell? ⟨W.heap.size, 4, none⟩ = some (.int .i64 ml) ∧ Below wr.heap.size wr w') (first | exact maker_keep (by assumption) (by assumption) | exact ⟨hcell0, hcell1, hcell2, hcell3, hcell4, (Below.refl _ _).drew⟩)
                (first | (go_at_call 60; refine (differentRows_any (S := fun _ => True) _ (doorRows t k t.length) _ (hV5.below (maker_below (by assumption)))).mono ?_; rintro e' w' ⟨rfl, hb⟩) | (go_at_call 59; refine (wafersFor_any mc md ms me ml (diffR (doorRows t k t.length)) hc1 hc2 hd1 hd2 _).mono ?_; rintro e' w' ⟨rfl, hb⟩; rw [← Hdr.out]))
              have hBw := maker_below (w0 := wr) (by assumption)
              go_wp2_with fail
              go_ret2
              exact ⟨by rw [Hr.out, sumUp_step hkk, HDL.out, if_pos hneg]; rfl, hB01.trans ((hBn.trans (hBw.mono hBn.size)).mono (by omega))⟩
            · have hw1 : wrap64 (acc + dl) = acc + dl := IntWalk.wrap64_in _ ⟨by omega, by omega⟩
              go_wp2_with fail
              go_region_held3 (fun w' => w'.cell? ⟨W.heap.size, 0, none⟩ = some (.int .i64 mc) ∧ w'.cell? ⟨W.heap.size, 1, none⟩ = some (.int .i64 md) ∧ w'.cell? ⟨W.heap.size, 2, none⟩ = some (.int .i64 ms) ∧ w'.cell? ⟨W.heap.size, 3, none⟩ = some (.int .i64 me) ∧ w'.cell? ⟨W.heap.size, 4, none⟩ = some (.int .i64 ml) ∧ Below wr.heap.size wr w') (first | exact maker_keep (by assumption) (by assumption) | exact ⟨hcell0, hcell1, hcell2, hcell3, hcell4, (Below.refl _ _).drew⟩)
                (first | (go_at_call 60; refine (differentRows_any (S := fun _ => True) _ (doorRows t k t.length) _ (hV5.below (maker_below (by assumption)))).mono ?_; rintro e' w' ⟨rfl, hb⟩) | (go_at_call 59; refine (wafersFor_any mc md ms me ml (diffR (doorRows t k t.length)) hc1 hc2 hd1 hd2 _).mono ?_; rintro e' w' ⟨rfl, hb⟩; rw [← Hdr.out]))
              have hBw := maker_below (w0 := wr) (by assumption)
              go_wp2_with fail
              go_roundw
              case rel => exact ⟨k + 1, acc + dl, by omega, by go_num, by first | rfl | rw [hw1], by omega, by omega, by rw [Hr.out, sumUp_step hkk, HDL.out, if_neg (by omega)], hBn.trans (hBw.mono hBn.size)⟩
              case measure => simp [intOf]; omega
      · obtain rfl : k = (getl t 0).length := by omega
        go_wp2_with fail
        go_ret2
        exact ⟨by rw [Hr.out, Nat.sub_self]; rfl, hB01.trans (hB.mono (by omega))⟩
theorem l20Different_b {S : Nat → Prop} (v : Value) (t : List (List Int)) (W : World) (h : V2 S W v t) :
    Calls Try.prog 55 #[v] W fun e' w' => e' = .returned (.int .i64 (diffR t)) ∧ Below W.heap.size W w' :=
  (l20Different_q v t W h).mono fun _ _ ⟨h1, n, h2⟩ => ⟨h1, by rw [h2]; exact below_drewN (Below.refl _ _) n⟩

set_option maxRecDepth 100000 in
theorem LeastWafersR_any {S : Nat → Prop} (m : Mk) (u : Value) (t : List (List Int)) (W : World) (h : V2 S W u t) :
    Calls Try.prog 16 #[.agg #[.int .i64 m.c, .int .i64 m.d, .int .i64 m.s, .int .i64 m.e, .int .i64 m.l, u]] W fun e' w' => e' = .returned (.tuple #[.int .i64 (leastAns m t).1, .int .i64 (leastAns m t).2]) ∧ Below W.heap.size W w' := by
  have hV := h
  obtain ⟨a, c, rfl, hm⟩ := h.form
  obtain ⟨W1, hW1, hB01, hz01, HZ01, hc01, hh01⟩ := box_facts W #[.int .i64 m.c, .int .i64 m.d, .int .i64 m.s, .int .i64 m.e, .int .i64 m.l, .slice a t.length c] 32
  have hV1 : V2 (fun _ => True) W1 (.slice a t.length c) t := (hV.below hB01).mono (fun _ _ _ => trivial) (fun _ _ _ => rfl)
  cases hs : isSys m t
  · have hfin : leastAns m t = (0, 1) := by rw [leastAns, if_neg (by rw [hs]; decide)]
    rw [hfin]
    have Hs := Lib.hid hs; clear hs
    go_enter Try.func16, Try.ntmps16
    go_wp2_with fail
    rw [← hW1]
    refine (isSystemR_b m _ t _ _ Hs.out hV1).mono ?_
    rintro e' w2 ⟨rfl, hb2⟩
    clear hc01 hh01
    go_wp2_with fail
    go_ret2
    exact ⟨rfl, hB01.trans (hb2.mono (by omega))⟩
  · have hfin : leastAns m t = sumUp (doorLeast m t) ((getl t 0).length - 0) 0 0 := by rw [leastAns, if_pos hs]; rfl
    obtain ⟨hok, htab, _⟩ : m.ok = true ∧ isTab t = true ∧ True := by
      simp only [isSys, Bool.and_eq_true] at hs; exact ⟨hs.1, hs.2.1, trivial⟩
    obtain ⟨htl, htr⟩ := isTab_iff.1 htab
    have ht0 := (htr 0 (by omega)).2.1
    have hcols : ∀ k, k < t.length → (getl t k).length = (getl t 0).length := fun k hk => (htr k hk).1
    have hle : ∀ d, doorLeast m t d ≤ 42 := fun d => doorLeast_le hok
    have hdl : ∀ d, doorLeast m t d = leastW m.c.toNat m.d.toNat (diffR (doorRows t d t.length)) := fun _ => rfl
    have hmk := isMk_iff.1 hok
    obtain ⟨mc, md, ms, me, ml⟩ := m
    simp only at hmk hdl
    obtain ⟨mc, rfl⟩ : ∃ n : Nat, mc = n := ⟨mc.toNat, by omega⟩
    obtain ⟨md, rfl⟩ : ∃ n : Nat, md = n := ⟨md.toNat, by omega⟩
    simp only [Int.toNat_natCast] at hdl
    obtain ⟨hc1, hc2, hd1, hd2⟩ : 2 ≤ mc ∧ mc ≤ 6 ∧ 2 ≤ md ∧ md ≤ 8 := by omega
    clear hmk hok htab
    have Hs := Lib.hid hs; clear hs
    have Hf := Lib.hid hfin; clear hfin
    have Hdl := Lib.hid hdl; clear hdl
    have Hle := Lib.hid hle; clear hle
    have Hcols := Lib.hid hcols; clear hcols htr
    obtain ⟨b0, off0, a0, c0, rfl, _, hcc0, hr0⟩ := hV1.cell (k := 0) (by omega)
    simp only [Nat.add_zero] at hcc0
    simp only at hc01 hh01
    go_enter Try.func16, Try.ntmps16
    go_wp2_with fail
    rw [← hW1]
    refine (isSystemR_b ⟨mc, md, ms, me, ml⟩ _ t _ _ Hs.out hV1).mono ?_
    rintro e' w2 ⟨rfl, hb2⟩
    have hx2 : ∀ o, w2.cell? ⟨W.heap.size, o, none⟩ = (#[.int .i64 mc, .int .i64 md, .int .i64 ms, .int .i64 me, .int .i64 ml, .slice (some ⟨b0, off0, none⟩) t.length c] : Array Value)[o]? := fun o => by rw [(bcell hb2).1 _ _ hz01, hc01]
    have hcc2 : w2.cell? ⟨b0, off0, none⟩ = some (.slice a0 (getl t 0).length c0) := cell_keep hcc0 (hb2.block _ (lt_of_cell hcc0))
    have Hc01 := Lib.hid hc01; clear hc01
    have Hh01 := Lib.hid hh01; clear hh01
    have HW1 := Lib.hid hW1; clear hW1
    have Hcc0 := Lib.hid hcc0; clear hcc0
    go_wp2_with fail
    have Hx2 := Lib.hid hx2; clear hx2
    go_loopw [4, 5, 6, 7, 8] (fun al i _ _ _ wr => ∃ (k : Nat) (acc : Int), k ≤ (getl t 0).length ∧ i = .int .i64 k ∧ al = .int .i64 acc ∧ 0 ≤ acc ∧ acc ≤ 42 * k ∧ leastAns ⟨mc, md, ms, me, ml⟩ t = sumUp (doorLeast ⟨mc, md, ms, me, ml⟩ t) ((getl t 0).length - k) k acc ∧ Below W1.heap.size W1 wr) (fun _ i _ _ _ _ => (getl t 0).length - (intOf i).toNat)
    case atStart => exact ⟨0, 0, Nat.zero_le _, rfl, rfl, by omega, by omega, Hf.out, hb2⟩
    case round =>
      obtain ⟨k, acc, hk, rfl, rfl, hacc0, hacc1, hrem, hB⟩ := hrel
      have Hr := Lib.hid hrem; clear hrem
      have hx : ∀ o, wr.cell? ⟨W.heap.size, o, none⟩ = (#[.int .i64 mc, .int .i64 md, .int .i64 ms, .int .i64 me, .int .i64 ml, .slice (some ⟨b0, off0, none⟩) t.length c] : Array Value)[o]? := fun o => by rw [(bcell hB).1 _ _ hz01, Hc01.out]
      have hccr : wr.cell? ⟨b0, off0, none⟩ = some (.slice a0 (getl t 0).length c0) := cell_keep Hcc0.out (hB.block _ (lt_of_cell Hcc0.out))
      by_cases hkk : k < (getl t 0).length
      · have hdd : ∀ j, j < t.length → k < (getl t j).length := fun j hj => by rw [Hcols.out j hj]; exact hkk
        have Hdd := Lib.hid hdd; clear hdd
        have hzr : W.heap.size < wr.heap.size := by have := hB.size; omega
        have hBz := hB.size
        have hown0 := own_lit0 wr W1.heap.size 43 1 hBz
        go_wp2_with fail
        have Hx := Lib.hid hx; clear hx
        go_loopw [6, 7] (fun o i wn => ∃ (j : Nat) (vs : List Value), j ≤ t.length ∧ i = .int .i64 j ∧ wn.ownsRow W1.heap.size 43 1 o (doorRows t k j).length vs ∧ RowVs (fun _ => True) W1 vs (doorRows t k j) ∧ Below W1.heap.size W1 wn) (fun _ i _ => t.length - (intOf i).toNat)
        case atStart => exact ⟨0, [], Nat.zero_le _, rfl, hown0, RowVs.nil, hB.alloc hBz _⟩
        case round =>
          obtain ⟨j, vs, hj, rfl, hown, hR, hBn⟩ := hrel
          have hzn := hBn.size
          have hzn1 : W.heap.size < wr.heap.size := by omega
          have hxn : ∀ o, wr.cell? ⟨W.heap.size, o, none⟩ = (#[.int .i64 mc, .int .i64 md, .int .i64 ms, .int .i64 me, .int .i64 ml, .slice (some ⟨b0, off0, none⟩) t.length c] : Array Value)[o]? := fun o => by rw [(bcell hBn).1 _ _ hz01, Hc01.out]
          have hdrl := doorRows_len t k j
          by_cases hjj : j < t.length
          · have hkj := Hdd.out j hjj
            obtain ⟨b1, off1, a1, c1, e1, _, hc1, hr1⟩ := (hV1.below hBn).cell hjj
            obtain ⟨b1', off1', a1', c1', e1', _, hc1', hr1'⟩ := hV1.cell hjj
            simp only [Option.some.injEq, Addr.mk.injEq, and_true] at e1 e1'
            obtain ⟨rfl, rfl⟩ := e1
            obtain ⟨rfl, rfl⟩ := e1'
            have hee := cell_keep hc1' (hBn.block _ (lt_of_cell hc1'))
            rw [hc1] at hee
            injection hee with hee
            injection hee with e1 _ e3
            subst e1; subst e3
            obtain ⟨b2, off2, rfl, _, hc2⟩ := hr1.cell hkj
            clear hc1'
            have hgl : (getl t j).length ≤ maxLen := hr1.len
            unfold maxLen at hgl
            by_cases h1 : geti (getl t j) k = 1
            · have e1 : (geti (getl t j) k == 1) = true := by simp [h1]
              have hst : doorRows t k (j + 1) = doorRows t k j ++ [getl t j] := by rw [doorRows, if_pos h1]
              have Hst := Lib.hid hst; clear hst
              have H1 := Lib.hid h1; clear h1
              go_wp2_with (at_builtin; refine wp_app1 _ rfl _ _ 24 rfl W1.heap.size 43 (.slice none 0 0) 24 Try.underlying24 inf_ints rfl _ _ _ rfl hown (.slice (some ⟨b2, off2, none⟩) (getl t j).length c1) _ rfl rfl (by omega) (by omega) (by omega) ?_; intro v1 w1 hown1 hgrow1 hblk1 hB1)
              go_roundw
              case rel => exact ⟨j + 1, _, by omega, by go_num, by rw [Hst.out, List.length_append]; exact hown1, by rw [Hst.out]; exact hR.snoc hr1', hBn.trans (hB1.mono (Nat.le_refl _))⟩
              case measure => simp [intOf]; omega
            · have e1 : (geti (getl t j) k == 1) = false := by simp [h1]
              have hst : doorRows t k (j + 1) = doorRows t k j := by rw [doorRows, if_neg h1]
              have Hst := Lib.hid hst; clear hst
              have H1 := Lib.hid h1; clear h1
              go_wp2_with fail
              go_roundw
              case rel => exact ⟨j + 1, _, by omega, by go_num, by rw [Hst.out]; exact hown, by rw [Hst.out]; exact hR, hBn⟩
              case measure => simp [intOf]; omega
          · obtain rfl : j = t.length := by omega
            have hV5 := own_V2 hown (hR.keep (Below.keep hBn fun _ _ h => h))
            have hdr := Hdl.out k
            have Hdr := Lib.hid hdr; clear hdr
            have hle := Hle.out k
            generalize hDL : doorLeast ⟨mc, md, ms, me, ml⟩ t k = dl at *
            have HDL := Lib.hid hDL; clear hDL
            have hcell0 := hxn 0
            have hcell1 := hxn 1
            have hcell2 := hxn 2
            have hcell3 := hxn 3
            have hcell4 := hxn 4
            simp at hcell0 hcell1 hcell2 hcell3 hcell4
            have hlow := leastW_ok mc md (diffR (doorRows t k t.length))
            rw [← Hdr.out] at hlow
            by_cases hneg : dl < 0
            · go_wp2_with fail
              go_region_held3 (fun w' => w'.cell? ⟨W.heap.size, 0, none⟩ = some (.int .i64 mc) ∧ w'.cell? ⟨W.heap.size, 1, none⟩ = some (.int .i64 md) ∧ w'.cell? ⟨W.heap.size, 2, none⟩ = some (.int .i64 ms) ∧ w'.cell? ⟨W.heap.size, 3, none⟩ = some (.int .i64 me) ∧ w'.cell? ⟨W.heap.size, 4, none⟩ = some (.int .i64 ml) ∧ Below wr.heap.size wr w') (first | exact maker_keep (by assumption) (by assumption) | exact ⟨hcell0, hcell1, hcell2, hcell3, hcell4, (Below.refl _ _).drew⟩)
                (first | (go_at_call 55; refine (l20Different_b (S := fun _ => True) _ (doorRows t k t.length) _ (hV5.below (maker_below (by assumption)))).mono ?_; rintro e' w' ⟨rfl, hb⟩) | (go_at_call 54; refine (l20For_any mc md ms me ml (diffR (doorRows t k t.length)) (by omega) (by omega) (by omega) (by omega) _).mono ?_; rintro e' w' ⟨rfl, hb⟩; rw [← Hdr.out]))
              have hBw := maker_below (w0 := wr) (by assumption)
              go_wp2_with fail
              go_ret2
              exact ⟨by rw [Hr.out, sumUp_step hkk, HDL.out, if_pos hneg]; rfl, hB01.trans ((hBn.trans (hBw.mono hBn.size)).mono (by omega))⟩
            · have hw1 : wrap64 (acc + dl) = acc + dl := IntWalk.wrap64_in _ ⟨by omega, by omega⟩
              go_wp2_with fail
              go_region_held3 (fun w' => w'.cell? ⟨W.heap.size, 0, none⟩ = some (.int .i64 mc) ∧ w'.cell? ⟨W.heap.size, 1, none⟩ = some (.int .i64 md) ∧ w'.cell? ⟨W.heap.size, 2, none⟩ = some (.int .i64 ms) ∧ w'.cell? ⟨W.heap.size, 3, none⟩ = some (.int .i64 me) ∧ w'.cell? ⟨W.heap.size, 4, none⟩ = some (.int .i64 ml) ∧ Below wr.heap.size wr w') (first | exact maker_keep (by assumption) (by assumption) | exact ⟨hcell0, hcell1, hcell2, hcell3, hcell4, (Below.refl _ _).drew⟩)
                (first | (go_at_call 55; refine (l20Different_b (S := fun _ => True) _ (doorRows t k t.length) _ (hV5.below (maker_below (by assumption)))).mono ?_; rintro e' w' ⟨rfl, hb⟩) | (go_at_call 54; refine (l20For_any mc md ms me ml (diffR (doorRows t k t.length)) (by omega) (by omega) (by omega) (by omega) _).mono ?_; rintro e' w' ⟨rfl, hb⟩; rw [← Hdr.out]))
              have hBw := maker_below (w0 := wr) (by assumption)
              go_wp2_with fail
              go_roundw
              case rel => exact ⟨k + 1, acc + dl, by omega, by go_num, by first | rfl | rw [hw1], by omega, by omega, by rw [Hr.out, sumUp_step hkk, HDL.out, if_neg (by omega)], hBn.trans (hBw.mono hBn.size)⟩
              case measure => simp [intOf]; omega
      · obtain rfl : k = (getl t 0).length := by omega
        go_wp2_with fail
        go_ret2
        exact ⟨by rw [Hr.out, Nat.sub_self]; rfl, hB01.trans (hB.mono (by omega))⟩
end Go.Proofs.Ytcdgechaehljgaa
