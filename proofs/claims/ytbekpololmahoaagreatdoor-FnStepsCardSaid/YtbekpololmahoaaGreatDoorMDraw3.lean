/- The reference's draws of keys. No conditions. -/
import Derived.Test.YtbekpololmahoaaGreatDoorMCount
import Derived.Test.YtbekpololmahoaaGreatDoorMEach5
import Derived.Test.YtbekpololmahoaaGreatDoorMTable
import Derived.Test.YtbekpololmahoaaGreatDoorMFalse
import Derived.Test.YtbekpololmahoaaGreatDoorMStops
namespace Go.Proofs.YtbekpololmahoaaGreatDoor
open Go.RowKit
set_option linter.unusedVariables false
set_option linter.unusedSimpArgs false
theorem own_ints {w : World} {B : Nat} {v v1 : Value} {l : List Int} {x : Int} (h : w.ownsRow B 2 1 v1 (l.length + 1) (l.map (Value.int .i64) ++ [.int .i64 x])) : w.ownsRow B 2 1 v1 (l ++ [x]).length ((l ++ [x]).map (Value.int .i64)) := by simpa using h
set_option maxRecDepth 100000 in
set_option maxHeartbeats 2000000 in
theorem l02DrawCuts_any (B0 SB : Nat) (m : Mk) (hm : SmallM m) (W : World) (h : Src B0 SB W) :
  Calls Tryz.prog 116 #[.pointer (some ⟨SB, 0, none⟩), .agg #[.int .i64 m.c, .int .i64 m.d, .int .i64 m.s, .int .i64 m.e, .int .i64 m.l]] W fun e w' => ∃ v l, e = .returned v ∧ (F1 W.heap.size w' v l ∧ l.length ≤ 9) ∧ Src B0 SB w' ∧ Only SB W w' := by
 have hSl := h.lt
 have hB0 : B0 ≤ SB := h.1
 obtain ⟨⟨hc1, hc2⟩, ⟨hd1, hd2⟩, ⟨hs1, hs2⟩, _, _⟩ := hm
 obtain ⟨mc, md, ms, me, ml⟩ := m
 dsimp only at *
 obtain ⟨W1, hW1, hB01, hz01, HZ01, hc01, hh01⟩ := box_facts W #[.int .i64 mc, .int .i64 md, .int .i64 ms, .int .i64 me, .int .i64 ml] 32
 have hs1' := h.below hB01
 have hbL : Below W1.heap.size W1 (W1.alloc (.cells #[] 2)) := (Below.refl _ _).alloc (Nat.le_refl _) _
 have hsL := hs1'.below hbL
 have hcL : ∀ o, (W1.alloc (.cells #[] 2)).cell? ⟨W.heap.size, o, none⟩ = (#[.int .i64 mc, .int .i64 md, .int .i64 ms, .int .i64 me, .int .i64 ml] : Array Value)[o]? := fun o => by rw [(bcell hbL).1 _ _ hz01, hc01]
 have hown0 := own_lit0 W1 (W.heap.size + 1) 2 1 (by omega)
 have hz1e := HZ01.out
 have hown0 : (W1.alloc (.cells #[] 2)).ownsRow (W.heap.size + 1) 2 1 (.slice (some ⟨W.heap.size + 1, 0, none⟩) 0 0) 0 [] := by rw [← hz1e] at hown0 ⊢; exact hown0
 have HL := Lib.hid (And.intro hsL (And.intro hown0 (And.intro hbL (And.intro hh01 hW1)))); clear hsL hown0 hbL hs1' h hh01 hz1e
 go_enter Tryz.func116, Tryz.ntmps116
 go_wp2_with fail
 rw [← hW1]
 refine (l01Next_any B0 SB _ _ HL.out.1).mono ?_
 rintro e' w2 ⟨A0, rfl, ⟨hA0, hA1⟩, hs2', ho2⟩
 have hbox : w2.heap[W.heap.size]? = some (.cells #[.int .i64 mc, .int .i64 md, .int .i64 ms, .int .i64 me, .int .i64 ml] 32 (0, 0)) := ho2.heap ((HL.out.2.2.1.block _ hz01).trans HL.out.2.2.2.1) (fun e => by omega)
 have hownA := own_only HL.out.2.1 ho2 (by omega)
 have hoW : Only SB W w2 := ((Only.of_below hB01).then_below HL.out.2.2.1).trans ho2
 have HI := Lib.hid (And.intro hs2' (And.intro hbox (And.intro hownA hoW))); clear hs2' hbox hownA hoW ho2 hcL hc01 hW1 hB01
 go_wp2_with fail
 go_loopw [5, 6, 7] (fun cv av i wr => ∃ (k : Nat) (A : Int) (l : List Int), k ≤ 8 ∧ i = .int .i64 (k : Int) ∧ av = .int .i64 A ∧ (-64 * (k + 1 : Int) ≤ A ∧ A ≤ 64 * (k + 1 : Int)) ∧ l.length = k ∧ wr.ownsRow (W.heap.size + 1) 2 1 cv l.length (l.map (Value.int .i64)) ∧ Src B0 SB wr ∧ Only SB W wr ∧ wr.heap[W.heap.size]? = some (.cells #[.int .i64 mc, .int .i64 md, .int .i64 ms, .int .i64 me, .int .i64 ml] 32 (0, 0))) (fun _ _ i _ => 8 - (intOf i).toNat)
 case atStart => exact ⟨0, A0, [], by omega, rfl, rfl, ⟨by omega, by omega⟩, rfl, HI.out.2.2.1, HI.out.1, HI.out.2.2.2, HI.out.2.1⟩
 case round =>
  obtain ⟨k, A, l, hk8, rfl, rfl, ⟨hAl, hAu⟩, hlk, hown, hsr, hoW, hbox⟩ := hrel
  have hzr := hoW.size
  have hzrb : W.heap.size + 1 ≤ wr.heap.size := lt_of_heap hbox
  have hc : ∀ o, wr.cell? ⟨W.heap.size, o, none⟩ = (#[.int .i64 mc, .int .i64 md, .int .i64 ms, .int .i64 me, .int .i64 ml] : Array Value)[o]? := fun o => by rw [cell_of_block hbox]
  by_cases hkk : (k : Int) < min 8 mc
  ·have hd : decide ((k : Int) < min 8 mc) = true := decide_eq_true hkk
   have hk7 : k ≤ 7 := by omega
   have HR := Lib.hid (And.intro hsr (And.intro hoW (And.intro hbox hlk))); clear hsr hoW hbox hlk
   obtain ⟨oa, oc, rfl, _, _⟩ := own_form hown
   have hl9 : l.length ≤ 1000 := by have := HR.out.2.2.2; omega
   go_wp2_with (at_builtin; refine wp_app1 _ rfl _ _ 57 rfl (W.heap.size + 1) 2 (.int .i64 0) 8 Tryz.underlying57 inf_int rfl _ _ _ rfl hown (.int .i64 A) _ rfl rfl (by omega) (by omega) (by omega) ?_; intro v1 w1 hown1 hgrow1 hblk1 hB1)
   have hown2 := own_ints (v := .slice oa l.length oc) hown1
   have hbx1 : w1.heap[W.heap.size]? = some (.cells #[.int .i64 mc, .int .i64 md, .int .i64 ms, .int .i64 me, .int .i64 ml] 32 (0, 0)) := (hgrow1.block _ (lt_of_heap HR.out.2.2.1) (fun e => by have := (hown.lt _ e.symm).1; omega)).trans HR.out.2.2.1
   have hg1 : Chg (fun i => W.heap.size + 1 ≤ i) wr w1 := (Chg.refl _ _).grown hgrow1 (fun g hg => .inl (hown.lt g hg).1)
   have hsr1 := HR.out.1.keep hg1 (fun b hb => ⟨by omega, by omega⟩)
   have hoW1 : Only SB W w1 := Chg.trans HR.out.2.1 (G := fun i => W.heap.size + 1 ≤ i) hg1 (fun i hi => .inr (by omega))
   clear hown hgrow1 hblk1 hB1 hg1
   have hc1 : ∀ o, w1.cell? ⟨W.heap.size, o, none⟩ = (#[.int .i64 mc, .int .i64 md, .int .i64 ms, .int .i64 me, .int .i64 ml] : Array Value)[o]? := fun o => by rw [cell_of_block hbx1]
   have hc12 : w1.drew.cell? ⟨W.heap.size, 2, none⟩ = some (.int .i64 ms) := hc1 2
   have HR1 := Lib.hid (And.intro hsr1 (And.intro hoW1 (And.intro hbx1 hown2))); clear hsr1 hoW1 hbx1 hown2 hc
   have hwr1 : IntKind.i64.wrap (2 * max 0 ms) = 2 * max 0 ms := IntWalk.i64_in _ (by omega)
   have hwr2 : IntKind.i64.wrap (2 * max 0 ms + 1) = 2 * max 0 ms + 1 := IntWalk.i64_in _ (by omega)
   refine wp_region_noPanic ?_
   refine wp_region_held_drew (S := fun w' => w'.cell? ⟨W.heap.size, 2, none⟩ = some (.int .i64 ms)) (by kernel_rfl) hc12 (fun hHeld => ?_)
   (refine wpAnyH_take (i := 0) (v := .int .i64 A) rfl (by kernel_rfl) (by kernel_rfl) (by kernel_rfl) (fun _ _ _ h => h) (Or.inl ⟨by kernel_rfl, fun w hSw => by (try dsimp only at hSw); go_split_ands; go_simp⟩) (by assumption) ?_; simp only [Act.put, List.setIfInBounds_toArray, List.set_cons_zero, List.set_cons_succ])
   (refine wpAnyH_take (i := 1) (v := .pointer (some ⟨SB, 0, none⟩)) rfl (by kernel_rfl) (by kernel_rfl) (by kernel_rfl) (fun _ _ _ h => h) (Or.inl ⟨by kernel_rfl, fun w hSw => by (try dsimp only at hSw); go_split_ands; go_simp⟩) (by assumption) ?_; simp only [Act.put, List.setIfInBounds_toArray, List.set_cons_zero, List.set_cons_succ])
   (refine wpAnyH_take (i := 2) (v := .pointer (some ⟨W.heap.size, 2, none⟩)) rfl (by kernel_rfl) (by kernel_rfl) (by kernel_rfl) (fun _ _ _ h => h) (Or.inl ⟨by kernel_rfl, fun w hSw => by (try dsimp only at hSw); go_split_ands; go_simp⟩) (by assumption) ?_; simp only [Act.put, List.setIfInBounds_toArray, List.set_cons_zero, List.set_cons_succ])
   (refine wpAnyH_take (i := 3) (v := .int .i64 ms) rfl (by kernel_rfl) (by kernel_rfl) (by kernel_rfl) (fun _ _ _ h => h) (Or.inl ⟨by kernel_rfl, fun w hSw => by (try dsimp only at hSw); go_split_ands; go_simp⟩) (by assumption) ?_; simp only [Act.put, List.setIfInBounds_toArray, List.set_cons_zero, List.set_cons_succ])
   (refine wpAnyH_take (i := 4) (v := .int .i64 (max 0 ms)) rfl (by kernel_rfl) (by kernel_rfl) (by kernel_rfl) (fun _ _ _ h => h) (Or.inl ⟨by kernel_rfl, fun w hSw => by (try dsimp only at hSw); go_split_ands; go_simp⟩) (by assumption) ?_; simp only [Act.put, List.setIfInBounds_toArray, List.set_cons_zero, List.set_cons_succ])
   (refine wpAnyH_take (i := 5) (v := .int .i64 (2 * max 0 ms)) rfl (by kernel_rfl) (by kernel_rfl) (by kernel_rfl) (fun _ _ _ h => h) (Or.inl ⟨by kernel_rfl, fun w hSw => by (try dsimp only at hSw); go_split_ands; go_simp⟩) (by assumption) ?_; simp only [Act.put, List.setIfInBounds_toArray, List.set_cons_zero, List.set_cons_succ])
   (refine wpAnyH_take (i := 6) (v := .int .i64 (2 * max 0 ms + 1)) rfl (by kernel_rfl) (by kernel_rfl) (by kernel_rfl) (fun _ _ _ h => h) (Or.inl ⟨by kernel_rfl, fun w hSw => by (try dsimp only at hSw); go_split_ands; go_simp⟩) (by assumption) ?_; simp only [Act.put, List.setIfInBounds_toArray, List.set_cons_zero, List.set_cons_succ])
   (refine wpAnyH_take (i := 9) (v := .pointer (some ⟨W.heap.size, 2, none⟩)) rfl (by kernel_rfl) (by kernel_rfl) (by kernel_rfl) (fun _ _ _ h => h) (Or.inl ⟨by kernel_rfl, fun w hSw => by (try dsimp only at hSw); go_split_ands; go_simp⟩) (by assumption) ?_; simp only [Act.put, List.setIfInBounds_toArray, List.set_cons_zero, List.set_cons_succ])
   (refine wpAnyH_take (i := 10) (v := .int .i64 ms) rfl (by kernel_rfl) (by kernel_rfl) (by kernel_rfl) (fun _ _ _ h => h) (Or.inl ⟨by kernel_rfl, fun w hSw => by (try dsimp only at hSw); go_split_ands; go_simp⟩) (by assumption) ?_; simp only [Act.put, List.setIfInBounds_toArray, List.set_cons_zero, List.set_cons_succ])
   refine wpAnyH_ready (rs := [7]) (by kernel_rfl) (by simp) (AllReadyH.cons rfl (fun K hK => ?_) AllReadyH.nil)
   go_simp
   go_at_call 27
   refine (l01Next_any B0 SB _ _ (HR1.out.1.below ((Below.refl _ _).drew))).mono ?_
   rintro e' w3 ⟨x, rfl, ⟨hx0, hx1⟩, hs3, ho3⟩
   have ho3' : Only SB w1 w3 := (Only.of_below ((Below.refl w1.heap.size w1).drew)).trans ho3
   have hbx3 := ho3'.heap HR1.out.2.2.1 (fun e => by omega)
   have hown3 := own_only HR1.out.2.2.2 ho3' (by omega)
   have hoW3 := HR1.out.2.1.trans ho3'
   have hc3 : ∀ o, w3.cell? ⟨W.heap.size, o, none⟩ = (#[.int .i64 mc, .int .i64 md, .int .i64 ms, .int .i64 me, .int .i64 ml] : Array Value)[o]? := fun o => by rw [cell_of_block hbx3]
   have hc32 : w3.cell? ⟨W.heap.size, 2, none⟩ = some (.int .i64 ms) := hc3 2
   have hwr3 : IntKind.i64.wrap (A + x) = A + x := IntWalk.i64_in _ (by omega)
   have hwr4 : IntKind.i64.wrap (A + x - ms) = A + x - ms := IntWalk.i64_in _ (by omega)
   have H3 := Lib.hid (And.intro hs3 (And.intro hoW3 (And.intro hbx3 hown3))); clear hs3 hoW3 hbx3 hown3 ho3 ho3' hc1
   dsimp only
   (refine hK.out _ _ hc32 (fun hHeld => ?_); clear hK K; (try simp only [Act.put, List.setIfInBounds_toArray, List.set_cons_zero, List.set_cons_succ]))
   (refine wpAnyH_ready (rs := [8]) (by kernel_rfl) (by simp) (AllReadyH.cons rfl (fun K hK => ?_) AllReadyH.nil); go_simp)
   (refine hK.out _ _ hc32 (fun hHeld => ?_); clear hK K; (try simp only [Act.put, List.setIfInBounds_toArray, List.set_cons_zero, List.set_cons_succ]))
   (refine wpAnyH_ready (rs := [11]) (by kernel_rfl) (by simp) (AllReadyH.cons rfl (fun K hK => ?_) AllReadyH.nil); go_simp)
   (refine hK.out _ _ hc32 (fun hHeld => ?_); clear hK K; (try simp only [Act.put, List.setIfInBounds_toArray, List.set_cons_zero, List.set_cons_succ]))
   (refine wpAnyH_ready (rs := [12]) (by kernel_rfl) (by simp) (AllReadyH.cons rfl (fun K hK => ?_) AllReadyH.nil); go_simp)
   (refine hK.out _ _ hc32 (fun hHeld => ?_); clear hK K; (try simp only [Act.put, List.setIfInBounds_toArray, List.set_cons_zero, List.set_cons_succ]))
   refine wpAnyH_done (by kernel_rfl) (NoPanic.normal ?_) _
   go_wp2_with fail
   refine (l01Next_any B0 SB _ _ H3.out.1).mono ?_
   rintro e' w4 ⟨y, rfl, ⟨hy0, hy1⟩, hs4, ho4⟩
   have hbx4 := ho4.heap H3.out.2.2.1 (fun e => by omega)
   have hown4 := own_only H3.out.2.2.2 ho4 (by omega)
   have hoW4 := H3.out.2.1.trans ho4
   have hc4 : ∀ o, w4.cell? ⟨W.heap.size, o, none⟩ = (#[.int .i64 mc, .int .i64 md, .int .i64 ms, .int .i64 me, .int .i64 ml] : Array Value)[o]? := fun o => by rw [cell_of_block hbx4]
   have H4 := Lib.hid (And.intro hs4 (And.intro hoW4 (And.intro hbx4 hown4))); clear hs4 hoW4 hbx4 hown4 ho4 hc3 hc32
   have hlk := HR.out.2.2.2
   by_cases hyp : 0 < y
   ·have hyd : decide (0 < y) = true := decide_eq_true hyp
    have hwr5 : IntKind.i64.wrap (md - 1) = md - 1 := IntWalk.i64_in _ (by omega)
    clear hlk
    go_wp2_with fail
    go_roundw
    case rel => exact ⟨k + 1, max 0 (min (md - 1) (A + x - ms)), l ++ [A], by omega, by go_num, rfl, ⟨by omega, by omega⟩, by have := HR.out.2.2.2; simp; omega, by simpa using H4.out.2.2.2, H4.out.1, H4.out.2.1, H4.out.2.2.1⟩
    case measure => simp [intOf]; omega
   ·have hyd : decide (0 < y) = false := decide_eq_false hyp
    clear hlk
    go_wp2_with fail
    go_roundw
    case rel => exact ⟨k + 1, A + x - ms, l ++ [A], by omega, by go_num, rfl, ⟨by omega, by omega⟩, by have := HR.out.2.2.2; simp; omega, by simpa using H4.out.2.2.2, H4.out.1, H4.out.2.1, H4.out.2.2.1⟩
    case measure => simp [intOf]; omega
  ·have hd : decide ((k : Int) < min 8 mc) = false := decide_eq_false hkk
   have HR := Lib.hid (And.intro hsr (And.intro hoW (And.intro hown hlk))); clear hsr hoW hown hlk hbox
   obtain ⟨oa, oc, rfl, _, _⟩ := own_form HR.out.2.2.1
   go_wp2_with fail
   refine (l01Next_any B0 SB _ _ HR.out.1).mono ?_
   rintro e' w3 ⟨x, rfl, ⟨hx0, hx1⟩, hs3, ho3⟩
   have hown3 := own_only HR.out.2.2.1 ho3 (by omega)
   have hoW3 := HR.out.2.1.trans ho3
   have hz3 := ho3.size
   clear hc
   by_cases hx : x = 0
   ·subst hx
    have hll : l.length ≤ 8 := by have := HR.out.2.2.2; omega
    have H3 := Lib.hid (And.intro hs3 hoW3); clear hs3 hoW3 ho3
    go_wp2_with (at_builtin; refine wp_app1 _ rfl _ _ 57 rfl (W.heap.size + 1) 2 (.int .i64 0) 8 Tryz.underlying57 inf_int rfl _ _ _ rfl hown3 (.int .i64 0) _ rfl rfl (by omega) (by omega) (by omega) ?_; intro v1 w1 hown1 hgrow1 hblk1 hB1)
    have hown4 := own_ints (v := .slice oa l.length oc) hown1
    have hg1 : Chg (fun i => W.heap.size + 1 ≤ i) w3 w1 := (Chg.refl _ _).grown hgrow1 (fun g hg => .inl (hown3.lt g hg).1)
    have hsr1 := H3.out.1.keep hg1 (fun b hb => ⟨by omega, by omega⟩)
    have hoW1 : Only SB W w1 := Chg.trans H3.out.2 (G := fun i => W.heap.size + 1 ≤ i) hg1 (fun i hi => .inr (by omega))
    have H4 := Lib.hid (And.intro hsr1 (And.intro hoW1 (own_F1 (own_base hown4 (show W.heap.size ≤ W.heap.size + 1 by omega))))); clear hsr1 hoW1 hown4 hg1 hgrow1 hblk1 hB1 hown1 hown3
    go_ret
    exact ⟨_, l ++ [0], rfl, ⟨H4.out.2.2, by simp; omega⟩, H4.out.1, H4.out.2.1⟩
   ·have e0 : (x == 0) = false := by rw [beq_eq_false_iff_ne]; exact hx
    have hll : l.length ≤ 8 := by have := HR.out.2.2.2; omega
    have H3 := Lib.hid (And.intro hs3 (And.intro hoW3 (own_F1 (own_base hown3 (show W.heap.size ≤ W.heap.size + 1 by omega))))); clear hs3 hoW3 ho3 hown3
    go_wp2_with fail
    go_ret
    exact ⟨_, l, rfl, ⟨H3.out.2.2, by omega⟩, H3.out.1, H3.out.2.1⟩
theorem behind_some {m : Mk} (hc : 0 ≤ m.c) {l : List Int} (hl : l.length = m.c.toNat) (hr : ∀ k, k < l.length → 0 ≤ geti l k ∧ geti l k ≤ m.d - 1) (h : (nextAns (behind m l)).2 = true) : isKeyB m (nextAns (behind m l)).1 = true := by
 obtain ⟨k, r, e⟩ := nextAns_true h
 rw [e]
 show isKeyB m k = true
 have hk : k ∈ behind m l := by rw [e]; simp
 unfold behind behindFrom at hk
 rw [List.mem_flatMap] at hk
 obtain ⟨i, hi, hk⟩ := hk
 rw [List.mem_map] at hi
 obtain ⟨j, hj, rfl⟩ := hi
 have hj' := List.mem_range.1 hj
 rw [List.mem_flatMap] at hk
 obtain ⟨y, hy, hk⟩ := hk
 have hy2 := mem_depths.1 hy
 unfold genB at hk
 split at hk
 ·rename_i hb
  obtain ⟨h1, h2, h3, h4⟩ := (gen_mem _ _ k).1 hk
  have hpl : (l.take (m.c.toNat - 1 - j) ++ [y]).length = m.c.toNat - 1 - j + 1 := by simp; omega
  rw [hpl] at h2 h3
  have hkl : k.length = m.c.toNat := by omega
  obtain ⟨z, hz⟩ := h1
  refine isKey_iff.2 ⟨by omega, fun x hx => ?_, begins_iff.2 fun i hi => ?_, h4⟩
  ·obtain ⟨i, hi, rfl⟩ := List.getElem_of_mem hx
   rw [← geti_eq hi]
   by_cases hlt : i < m.c.toNat - 1 - j + 1
   ·rw [← hz, geti_append (by rw [hpl]; exact hlt)]
    by_cases hlt2 : i < m.c.toNat - 1 - j
    ·rw [geti_append (by simp; omega), geti_take (by omega)]
     exact hr i (by omega)
    ·have e2 : i = (l.take (m.c.toNat - 1 - j)).length := by simp; omega
     rw [e2, geti_snoc]
     have := hr (m.c.toNat - 1 - j) (by omega)
     omega
   ·exact (h3 i (by omega) hi).1
  ·by_cases hlt : i < m.c.toNat - 1 - j + 1
   ·have h5 := begins_iff.1 hb i (by rw [hpl]; exact hlt)
    rw [← hz, fitAt_append (by rw [hpl]; exact hlt)]
    exact h5
   ·exact (h3 i (by omega) hi).2
 ·cases hk
set_option maxRecDepth 100000 in
set_option maxHeartbeats 2000000 in
theorem l02Some_any (B0 SB : Nat) (m : Mk) (hm : m.ok = true) (W : World) (h : Src B0 SB W) :
  Calls Tryz.prog 115 #[.pointer (some ⟨SB, 0, none⟩), .agg #[.int .i64 m.c, .int .i64 m.d, .int .i64 m.s, .int .i64 m.e, .int .i64 m.l]] W fun e w' => ∃ v key, e = .returned v ∧ (V1 (fun b => W.heap.size ≤ b) w' v key ∧ isKeyB m key = true) ∧ Src B0 SB w' ∧ Only SB W w' := by
 have hSl := h.lt
 have hB0 : B0 ≤ SB := h.1
 have hmo := Mk.ok_iff.1 hm
 obtain ⟨W1, hW1, hB01, hz01, HZ01, hc01, hh01⟩ := box_facts W #[.int .i64 m.c, .int .i64 m.d, .int .i64 m.s, .int .i64 m.e, .int .i64 m.l] 32
 have hs1' := h.below hB01
 have hbL : Below W1.heap.size W1 (W1.alloc (.cells #[] 2)) := (Below.refl _ _).alloc (Nat.le_refl _) _
 have hsL := hs1'.below hbL
 have hown0 := own_lit0 W1 (W.heap.size + 1) 2 1 (by omega)
 have hz1e := HZ01.out
 have hown0 : (W1.alloc (.cells #[] 2)).ownsRow (W.heap.size + 1) 2 1 (.slice (some ⟨W.heap.size + 1, 0, none⟩) 0 0) 0 [] := by rw [← hz1e] at hown0 ⊢; exact hown0
 have hbxL := (hbL.block _ hz01).trans hh01
 have hoL : Only SB W (W1.alloc (.cells #[] 2)) := (Only.of_below hB01).then_below hbL
 have HL := Lib.hid (And.intro hsL (And.intro hown0 (And.intro hoL (And.intro hbxL hm)))); clear hsL hown0 hbL hs1' h hh01 hz1e hoL hbxL hm
 go_enter Tryz.func115, Tryz.ntmps115
 go_wp2_with fail
 rw [← hW1]
 clear hc01 hW1 hB01
 go_loopw [5, 6] (fun cv i wr => ∃ (k : Nat) (l : List Int), (k : Int) ≤ m.c ∧ i = .int .i64 (k : Int) ∧ l.length = k ∧ (∀ j, j < l.length → 0 ≤ geti l j ∧ geti l j ≤ m.d - 1) ∧ wr.ownsRow (W.heap.size + 1) 2 1 cv l.length (l.map (Value.int .i64)) ∧ Src B0 SB wr ∧ Only SB W wr ∧ wr.heap[W.heap.size]? = some (.cells #[.int .i64 m.c, .int .i64 m.d, .int .i64 m.s, .int .i64 m.e, .int .i64 m.l] 32 (0, 0))) (fun _ i _ => 6 - (intOf i).toNat)
 case atStart => exact ⟨0, [], by omega, rfl, rfl, fun j hj => by simp at hj, HL.out.2.1, HL.out.1, HL.out.2.2.1, HL.out.2.2.2.1⟩
 case round =>
  obtain ⟨k, l, hkc, rfl, hlk, hlr, hown, hsr, hoW, hbox⟩ := hrel
  have hzr := hoW.size
  have hzrb : W.heap.size + 1 ≤ wr.heap.size := lt_of_heap hbox
  have hc : ∀ o, wr.cell? ⟨W.heap.size, o, none⟩ = (#[.int .i64 m.c, .int .i64 m.d, .int .i64 m.s, .int .i64 m.e, .int .i64 m.l] : Array Value)[o]? := fun o => by rw [cell_of_block hbox]
  obtain ⟨oa, oc, rfl, _, _⟩ := own_form hown
  by_cases hkk : (k : Int) < m.c
  ·have hd : decide ((k : Int) < m.c) = true := decide_eq_true hkk
   have HR := Lib.hid (And.intro hsr (And.intro hoW (And.intro hbox (And.intro hlk (And.intro hlr hown))))); clear hsr hoW hbox hlk hlr hown
   go_wp2_with fail
   refine (l01Next_any B0 SB _ _ HR.out.1).mono ?_
   rintro e' w3 ⟨x, rfl, ⟨hx0, hx1⟩, hs3, ho3⟩
   have hown3 := own_only HR.out.2.2.2.2.2 ho3 (by omega)
   have hbx3 := ho3.heap HR.out.2.2.1 (fun e => by omega)
   have hoW3 := HR.out.2.1.trans ho3
   have hz3 := ho3.size
   have hl9 : l.length ≤ 1000 := by have := HR.out.2.2.2.1; omega
   have H3 := Lib.hid (And.intro hs3 (And.intro hoW3 hbx3)); clear hs3 hoW3 hbx3 ho3 hc
   go_wp2_with (at_builtin; refine wp_app1 _ rfl _ _ 57 rfl (W.heap.size + 1) 2 (.int .i64 0) 8 Tryz.underlying57 inf_int rfl _ _ _ rfl hown3 (.int .i64 x) _ rfl rfl (by omega) (by omega) (by omega) ?_; intro v1 w1 hown1 hgrow1 hblk1 hB1)
   have hown4 := own_ints (v := .slice oa l.length oc) hown1
   have hg1 : Chg (fun i => W.heap.size + 1 ≤ i) w3 w1 := (Chg.refl _ _).grown hgrow1 (fun g hg => .inl (hown3.lt g hg).1)
   have hsr1 := H3.out.1.keep hg1 (fun b hb => ⟨by omega, by omega⟩)
   have hoW1 : Only SB W w1 := Chg.trans H3.out.2.1 (G := fun i => W.heap.size + 1 ≤ i) hg1 (fun i hi => .inr (by omega))
   have hbx1 := hg1.heap H3.out.2.2 (fun e => by omega)
   have H4 := Lib.hid (And.intro hsr1 (And.intro hoW1 (And.intro hbx1 hown4))); clear hsr1 hoW1 hbx1 hown4 hg1 hgrow1 hblk1 hB1 hown1 hown3
   go_roundw
   case rel =>
    refine ⟨k + 1, l ++ [x], by omega, by go_num, by have := HR.out.2.2.2.1; simp; omega, fun j hj => ?_, H4.out.2.2.2, H4.out.1, H4.out.2.1, H4.out.2.2.1⟩
    by_cases hjl : j < l.length
    ·rw [geti_append hjl]; exact HR.out.2.2.2.2.1 j hjl
    ·have e : j = l.length := by simp at hj; omega
     subst e
     rw [geti_snoc]; omega
   case measure => simp [intOf]; omega
  ·have hd : decide ((k : Int) < m.c) = false := decide_eq_false hkk
   have hlc : l.length = m.c.toNat := by omega
   have hV : V1 (fun b => W.heap.size ≤ b) wr (.slice oa l.length oc) l := (own_F1 (own_base hown (show W.heap.size ≤ W.heap.size + 1 by omega))).v1
   have hnx := l02Next_any m HL.out.2.2.2.2 (.slice oa l.length oc) l wr hV (by omega) (fun j hj => by have := hlr j hj; omega)
   have hbs := behind_some (m := m) (by omega) hlc hlr
   obtain ⟨ans, hans⟩ : ∃ a, nextAns (behind m l) = a := ⟨_, rfl⟩
   rw [hans] at hnx hbs
   obtain ⟨ak, ab⟩ := ans
   have HR := Lib.hid (And.intro hsr (And.intro hoW (And.intro hbox (And.intro hnx (And.intro hbs hV))))); clear hsr hoW hbox hnx hbs hown hlk hlr hans hlc hV
   go_wp2_with fail
   refine HR.out.2.2.2.1.mono ?_
   rintro e' w3 ⟨kv, rfl, hkv, hb3⟩
   have hs3 := HR.out.1.below hb3
   have hoW3 := HR.out.2.1.then_below hb3
   have hbx3 := (hb3.block _ (lt_of_heap HR.out.2.2.1)).trans HR.out.2.2.1
   have hc3 : ∀ o, w3.cell? ⟨W.heap.size, o, none⟩ = (#[.int .i64 m.c, .int .i64 m.d, .int .i64 m.s, .int .i64 m.e, .int .i64 m.l] : Array Value)[o]? := fun o => by rw [cell_of_block hbx3]
   have hz3 := hb3.size
   cases ab
   ·have H3 := Lib.hid (And.intro hs3 (And.intro hoW3 hbx3)); clear hs3 hoW3 hbx3 hb3 hkv hc
    have hne := keysOf_ne HL.out.2.2.2.2
    have hfst := l02First_any m HL.out.2.2.2.2 m.c.toNat (fun _ => False) (.slice none 0 0) [] w3 ⟨none, 0, rfl, Nat.le_refl _, Nat.zero_le _, fun k hk => by simp at hk⟩ (fun _ => .inl rfl) (by simp; omega) (fun k hk => by simp at hk)
    rw [genB_nil] at hfst
    obtain ⟨key, rest, hkeys⟩ : ∃ key rest, keysOf m = key :: rest := by
     cases hK : keysOf m with
     | nil => exact absurd hK hne
     | cons a b => exact ⟨a, b, rfl⟩
    have hkk2 : isKeyB m key = true := (mem_keysOf (by omega)).1 (by rw [hkeys]; simp)
    rw [hkeys] at hfst
    have hfst : Calls Tryz.prog 60 #[.agg #[.int .i64 m.c, .int .i64 m.d, .int .i64 m.s, .int .i64 m.e, .int .i64 m.l], .slice none 0 0] w3 (FirstPost (fun _ => False) w3 (key, true)) := hfst
    have HF := Lib.hid (And.intro hfst hkk2); clear hfst hkk2 hkeys hne
    go_wp2_with fail
    refine HF.out.1.mono ?_
    rintro e' w4 ⟨kv2, rfl, hkv2, hb4⟩
    have hV2 := hkv2 rfl
    have H4 := Lib.hid (And.intro (H3.out.1.below hb4) (And.intro (H3.out.2.1.then_below hb4) (hV2.mono (S' := fun b => W.heap.size ≤ b) (fun b h1 _ => by rcases h1 with h1 | h1; exact h1.elim; omega) (fun _ _ _ => rfl)))); clear hV2 hkv2 hb4
    go_wp2_with fail
    go_ret
    exact ⟨_, key, rfl, ⟨H4.out.2.2, HF.out.2⟩, H4.out.1, H4.out.2.1⟩
   ·have H3 := Lib.hid (And.intro hs3 (And.intro hoW3 ((hkv rfl).mono (S' := fun b => W.heap.size ≤ b) (fun b h1 _ => by rcases h1 with h1 | h1; exact h1.elim; omega) (fun _ _ _ => rfl)))); clear hs3 hoW3 hbx3 hb3 hkv hc hc3
    go_wp2_with fail
    go_ret
    exact ⟨_, ak, rfl, ⟨H3.out.2.2, HR.out.2.2.2.2.1 trivial⟩, H3.out.1, H3.out.2.1⟩
theorem rows_of {S : Nat → Prop} {w : World} {a : Option Addr} {n c : Nat} {ls : List (List Int)} (h : V2 S w (.slice a n c) ls) (hn : ls ≠ []) : ∃ b off vs, a = some ⟨b, off, none⟩ ∧ RowVs S w vs ls ∧ ∀ j u, vs[j]? = some u → w.cell? ((⟨b, off, none⟩ : Addr).add j) = some u := by
 have h2 := h
 obtain ⟨a', c', e, hm⟩ := h.form
 simp only [Value.slice.injEq] at e
 obtain ⟨rfl, rfl, rfl⟩ := e
 obtain ⟨b, off, a0, c0, rfl, _, _, _⟩ := h2.cell (k := 0) (List.length_pos_iff.2 hn)
 refine ⟨b, off, (List.range ls.length).map fun j => (w.cell? ⟨b, off + j, none⟩).getD undef, rfl, ⟨by simp, fun k hk => ?_⟩, fun j u hj => ?_⟩
 ·obtain ⟨b1, off1, a1, c1, e, _, hc, hr⟩ := h2.cell hk
  simp only [Option.some.injEq, Addr.mk.injEq, and_true] at e
  obtain ⟨rfl, rfl⟩ := e
  refine ⟨_, by rw [List.getElem?_map, List.getElem?_range hk]; rfl, ?_⟩
  show V1 S w ((w.cell? ⟨b, off + k, none⟩).getD undef) _
  rw [hc]; exact hr
 ·have hjl : j < ls.length := by
   have := (List.getElem?_eq_some_iff.1 hj).1
   simpa using this
  obtain ⟨b1, off1, a1, c1, e, _, hc, hr⟩ := h2.cell hjl
  simp only [Option.some.injEq, Addr.mk.injEq, and_true] at e
  obtain ⟨rfl, rfl⟩ := e
  rw [List.getElem?_map, List.getElem?_range hjl] at hj
  have hadd : (⟨b, off, none⟩ : Addr).add j = ⟨b, off + j, none⟩ := by unfold Addr.add; split <;> simp_all
  rw [hadd]
  simp only [Option.map_some, hc, Option.getD_some] at hj
  rw [hc, hj]
theorem RowVs.ones {S : Nat → Prop} {w : World} {vs : List Value} {ls : List (List Int)} (h : RowVs S w vs ls) : ∀ u ∈ vs, u.oneCell' = true := by
 intro u hu
 obtain ⟨k, hk, e⟩ := List.getElem_of_mem hu
 obtain ⟨ev, h1, h2⟩ := h.2 k (by rw [← h.1]; exact hk)
 obtain ⟨a, c, rfl, _⟩ := h2.form
 rw [List.getElem?_eq_getElem hk, e] at h1
 cases h1
 rfl
def CloneR (W : World) (S : Nat → Prop) (ls : List (List Int)) (e' : Ending) (w' : World) : Prop :=
 ∃ v' vs, e' = .returned v' ∧ w'.ownsRow W.heap.size 57 1 v' ls.length vs ∧ RowVs S w' vs ls ∧ Below W.heap.size W w'
theorem eqlNilR (w : World) : Sem.run Tryz.prog (binOp .eql 33 (.slice none 0 0) (.slice none 0 0)) w = .ok (.bool true) w := by kernel_rfl
theorem eqlSomeR (w : World) (ad : Addr) (n c : Nat) : Sem.run Tryz.prog (binOp .eql 33 (.slice (some ad) n c) (.slice none 0 0)) w = .ok (.bool false) w := by kernel_rfl
set_option maxRecDepth 100000 in
theorem slClone2_any {S : Nat → Prop} (v : Value) (ls : List (List Int)) (W : World) (h : V2 S W v ls) (hp : ls = [] → PV v) (hlen : ls.length ≤ 1000000) :
  Calls Tryz.prog 54 #[v] W (CloneR W S ls) := by
 have hV := h
 obtain ⟨a, c, rfl, hm⟩ := h.form
 have hE1 := eqlNilR
 have hE2 := eqlSomeR
 have hbb : Below W.heap.size W (W.alloc (.cells #[] 57)) := (Below.refl _ _).alloc (Nat.le_refl _) _
 by_cases hn : ls = []
 ·subst hn
  rcases hp rfl with e | ⟨b, off, n, c', e⟩
  ·simp only [List.length_nil, Value.slice.injEq] at e
   obtain ⟨rfl, _, rfl⟩ := e
   go_enter Tryz.func54, Tryz.ntmps54
   go_wp2_with fail
   go_ret
   exact ⟨_, [], rfl, ⟨rfl, .inl ⟨rfl, rfl⟩⟩, RowVs.nil, Below.refl _ _⟩
  ·simp only [List.length_nil, Value.slice.injEq] at e
   obtain ⟨rfl, rfl, rfl⟩ := e
   have hown0 := own_lit0 W W.heap.size 57 1 (Nat.le_refl _)
   go_enter Tryz.func54, Tryz.ntmps54
   go_wp2_with (at_builtin; refine wp_app rfl _ _ 33 rfl W.heap.size 57 (.slice none 0 0) 1 24 Tryz.underlying33 inf_ints rfl (by omega) _ _ _ rfl hown0 _ _ _ [] rfl rfl (fun j u hj => by simp at hj) (by simp) (by unfold maxLen; omega) (by omega) (by simp) ?_; intro v1 w1 hown1 hgrow1 hblk1)
   go_ret
   exact ⟨_, [], rfl, hown1, RowVs.nil, hbb.grown hgrow1 (by simp) (fun k hk => by have := hown0.lt k hk; exact this.1)⟩
 ·obtain ⟨b, off, vs, rfl, hvs, hnews0⟩ := rows_of hV hn
  have hnews : ∀ j u, vs[j]? = some u → (W.alloc (.cells #[] 57)).cell? ((⟨b, off, none⟩ : Addr).add j) = some u := fun j u hj => (by rw [World.cell?_alloc_some _ _ _ (by rw [hnews0 j u hj]; rfl)]; exact hnews0 j u hj)
  have hown0 := own_lit0 W W.heap.size 57 1 (Nat.le_refl _)
  have hvl := hvs.1
  have Hnews := Lib.hid (And.intro hnews hvs); clear hnews hvs
  have Hn := Lib.hid hn; clear hn hp h hV
  go_enter Tryz.func54, Tryz.ntmps54
  go_wp2_with (at_builtin; refine wp_app rfl _ _ 33 rfl W.heap.size 57 (.slice none 0 0) 1 24 Tryz.underlying33 inf_ints rfl (by omega) _ _ _ rfl hown0 _ _ _ vs rfl (by omega) Hnews.out.1 Hnews.out.2.ones (by unfold maxLen; omega) (by omega) (by simp) ?_; intro v1 w1 hown1 hgrow1 hblk1)
  go_ret
  have hlt : ∀ k, (Value.slice (some ⟨W.heap.size, 0, none⟩) 0 0).ownBlock = some k → W.heap.size ≤ k := fun k hk => by have := hown0.lt k hk; exact this.1
  have hB := hbb.grown hgrow1 (by simp) hlt
  refine ⟨_, vs, rfl, ?_, ?_, hB⟩
  ·simpa using hown1
  ·exact Hnews.out.2.below hB
def WithR (W : World) (S S' : Nat → Prop) (ls : List (List Int)) (e' : Ending) (w' : World) : Prop :=
 ∃ v' vs, e' = .returned v' ∧ w'.ownsRow W.heap.size 57 1 v' ls.length vs ∧ RowVs (fun b => S b ∨ S' b) w' vs ls ∧ Below W.heap.size W w'
set_option maxRecDepth 100000 in
theorem l16With_any {S S' : Nat → Prop} (v kv : Value) (ls : List (List Int)) (k : List Int) (W : World) (h : V2 S W v ls) (hp : ls = [] → PV v) (hk : V1 S' W kv k) (hlen : ls.length ≤ 1000000) :
  Calls Tryz.prog 61 #[v, kv] W (WithR W S S' (ls ++ [k])) := by
 obtain ⟨i0, hi, hz0, hz1, hz2⟩ := info_parts inf_ints
 have hV := h
 have hK := hk
 obtain ⟨a, c, rfl, hm⟩ := h.form
 obtain ⟨ka, kc, rfl, hkm⟩ := hk.form
 have hbb : Below W.heap.size W (W.alloc (.cells #[] 57)) := (Below.refl _ _).alloc (Nat.le_refl _) _
 have hzA := hbb.size
 have hown0 := own_lit0 W W.heap.size 57 1 (Nat.le_refl _)
 have fin : ∀ (w2 : World) (vs : List Value) (v' : Value) (w' : World), RowVs S W vs ls → Below W.heap.size W w' → w'.ownsRow W.heap.size 57 1 v' (ls.length + 1) (vs ++ [.slice ka k.length kc]) → WithR W S S' (ls ++ [k]) (.returned v') w' := fun w2 vs v' w' h1 h2 h3 =>
  ⟨v', _, rfl, by simpa using h3, (RowVs.snoc (h := (show RowVs (fun b => S b ∨ S' b) w' vs ls from ⟨h1.1, fun j hj => by obtain ⟨ev, g1, g2⟩ := h1.2 j hj; exact ⟨ev, g1, (g2.below h2).mono (fun b hb _ => .inl hb) (fun _ _ _ => rfl)⟩⟩)) ((hK.below h2).mono (fun b hb _ => .inr hb) (fun _ _ _ => rfl))), h2⟩
 have Fin := Lib.hid fin; clear fin hk h
 by_cases hn : ls = []
 ·subst hn
  rcases hp rfl with e | ⟨b, off, n, c', e⟩
  ·simp only [List.length_nil, Value.slice.injEq] at e
   obtain ⟨rfl, _, rfl⟩ := e
   go_enter Tryz.func61, Tryz.ntmps61
   go_wp2_with (first | (at_builtin; refine wpList_append_own_none rfl _ _ 33 rfl W.heap.size 57 i0 1 Tryz.underlying33 hi _ _ _ rfl hown0 rfl ?_) | ((at_builtin; refine wp_app1h (W.alloc (.cells #[] 57)) (W.heap.size + 1) (by simp) rfl _ _ 33 rfl W.heap.size 57 (.slice none 0 0) 24 Tryz.underlying33 inf_ints rfl (.slice (some ⟨W.heap.size, 0, none⟩) 0 0) 0 [] rfl hown0 (.slice ka k.length kc) _ rfl rfl (by omega) (by omega) (by first | (simp; done) | (simp; omega)) ?_; intro v1 w1 hown1 hgrow1 hblk1 hB1)))
   go_ret
   exact Fin.out w1 [] _ _ RowVs.nil (hbb.trans (hB1.mono (by simp))) hown1
  ·simp only [List.length_nil, Value.slice.injEq] at e
   obtain ⟨rfl, rfl, rfl⟩ := e
   go_enter Tryz.func61, Tryz.ntmps61
   go_wp2_with (first | (at_builtin; refine wp_app rfl _ _ 33 rfl W.heap.size 57 (.slice none 0 0) 1 24 Tryz.underlying33 inf_ints rfl (by omega) _ _ _ rfl hown0 _ _ _ [] rfl rfl (fun j u hj => by simp at hj) (by simp) (by unfold maxLen; omega) (by omega) (by simp) ?_; intro v2 w2 hown2 hgrow2 hblk2; have hB2 := hbb.grown hgrow2 (by simp) (fun k hk => by have := hown0.lt k hk; exact this.1); have hz2' := hB2.size) | (at_builtin; refine wp_app1 _ rfl _ _ 33 rfl W.heap.size 57 (.slice none 0 0) 24 Tryz.underlying33 inf_ints rfl _ _ _ rfl hown2 (.slice ka k.length kc) _ rfl rfl (by omega) (by omega) (by omega) ?_; intro v1 w1 hown1 hgrow1 hblk1 hB1))
   go_ret
   exact Fin.out w1 [] _ _ RowVs.nil (hB2.trans (hB1.mono (by omega))) hown1
 ·obtain ⟨b, off, vs, rfl, hvs, hnews0⟩ := rows_of hV hn
  have hnews : ∀ j u, vs[j]? = some u → (W.alloc (.cells #[] 57)).cell? ((⟨b, off, none⟩ : Addr).add j) = some u := fun j u hj => (by rw [World.cell?_alloc_some _ _ _ (by rw [hnews0 j u hj]; rfl)]; exact hnews0 j u hj)
  have hvl := hvs.1
  have Hnews := Lib.hid (And.intro hnews hvs); clear hnews hvs hnews0
  have Hn := Lib.hid hn; clear hn hp hV
  go_enter Tryz.func61, Tryz.ntmps61
  go_wp2_with (first | (at_builtin; refine wp_app rfl _ _ 33 rfl W.heap.size 57 (.slice none 0 0) 1 24 Tryz.underlying33 inf_ints rfl (by omega) _ _ _ rfl hown0 _ _ _ vs rfl (by omega) Hnews.out.1 Hnews.out.2.ones (by unfold maxLen; omega) (by omega) (by simp) ?_; intro v2 w2 hown2' hgrow2 hblk2; have hB2 := hbb.grown hgrow2 (by simp) (fun k hk => by have := hown0.lt k hk; exact this.1); have hz2' := hB2.size; have hown2 : w2.ownsRow W.heap.size 57 1 v2 ls.length vs := by simpa using hown2') | (at_builtin; refine wp_app1 _ rfl _ _ 33 rfl W.heap.size 57 (.slice none 0 0) 24 Tryz.underlying33 inf_ints rfl _ _ _ rfl hown2 (.slice ka k.length kc) _ rfl rfl (by omega) (by omega) (by omega) ?_; intro v1 w1 hown1 hgrow1 hblk1 hB1))
  go_ret
  exact Fin.out w1 vs _ _ Hnews.out.2 (hB2.trans (hB1.mono (by omega))) hown1
theorem Out2.only {B SB : Nat} {w w' : World} {v : Value} {ls : List (List Int)} (h : Out2 B w v ls) (hc : Only SB w w') (hs : SB < B) : Out2 B w' v ls := by
 obtain ⟨vs, bk, h1, h2, h3⟩ := h
 refine ⟨vs, bk, own_only h1 hc hs, fun k hk => ?_, h3⟩
 obtain ⟨rv, h4, h5⟩ := h2 k hk
 exact ⟨rv, h4, h5.keep fun hn => hc.block _ (h5.lt hn) (fun e => by have := (h3 k hk hn).1; omega)⟩
/-- One row more, made since w (of which the list's own blocks have not turned). -/
theorem Out2.pushO {B : Nat} {w w2 w1 : World} {v v1 rv : Value} {ls : List (List Int)} {l : List Int} {b : Nat} {vs : List Value}
  (h : Out2 B w v ls) (hB : B ≤ w.heap.size) (hz : w.heap.size ≤ w2.heap.size) (hk : ∀ b, B ≤ b → b < w.heap.size → w2.heap[b]? = w.heap[b]?) (hx : X1 w2 rv l b) (hbn : l ≠ [] → w.heap.size ≤ b)
  (hown0 : w.ownsRow B 57 1 v ls.length vs) (hown : w1.ownsRow B 57 1 v1 (ls.length + 1) (vs ++ [rv])) (hg : w2.grownBy w1 v.ownBlock) (hblk : v1.ownBlock = v.ownBlock ∨ ∃ g, v1.ownBlock = some g ∧ w2.heap.size ≤ g) : Out2 B w1 v1 (ls ++ [l]) := by
 obtain ⟨vs', bk, h1, h2, h3⟩ := h
 have hvs : vs' = vs := by
  have e1 := h1.1
  have e2 := hown0.1
  rcases h1.2 with ⟨rfl, h0⟩ | ⟨g, cap, cur, rfl, _, hh, _, _, _, ht⟩
  ·rw [List.eq_nil_of_length_eq_zero (show vs'.length = 0 by omega), List.eq_nil_of_length_eq_zero (show vs.length = 0 by omega)]
  ·rcases hown0.2 with ⟨e, _⟩ | ⟨g', cap', cur', e, _, hh', _, _, _, ht'⟩
   ·cases e
   ·simp only [Value.slice.injEq, Option.some.injEq, Addr.mk.injEq, and_true, true_and] at e
    obtain ⟨rfl, _⟩ := e
    rw [hh] at hh'
    simp only [Option.some.injEq, Obj.cells.injEq, and_true] at hh'
    rw [← ht, ← ht', hh']
 subst hvs
 have hvl : ∀ g, v.ownBlock = some g → g < w.heap.size := fun g hgg => (h1.lt g hgg).2
 have hxl : ∀ k, k < ls.length → getl ls k ≠ [] → bk k < w.heap.size := fun k hk hn => by
  obtain ⟨rv, _, h⟩ := h2 k hk; exact h.lt hn
 have hne1 : ∀ c, c < w2.heap.size → v.ownBlock ≠ some c → v1.ownBlock ≠ some c := fun c hc hn e => by
  rcases hblk with e1 | ⟨g, e1, hge⟩
  ·exact hn (e1.symm.trans e)
  ·rw [e] at e1; cases e1; omega
 have hvl1 := h1.1
 refine ⟨vs' ++ [rv], fun k => if k < ls.length then bk k else b, by simpa using hown, fun k hk' => ?_, fun k hk' hn => ?_⟩
 ·by_cases hkl : k < ls.length
  ·obtain ⟨rv', h4, h5⟩ := h2 k hkl
   refine ⟨rv', by rw [List.getElem?_append_left (by omega)]; exact h4, ?_⟩
   rw [getl_app1 hkl]
   simp only [hkl, if_true]
   exact h5.keep fun hn => by
    rw [hg.block _ (Nat.lt_of_lt_of_le (hxl k hkl hn) hz) (fun e => (h3 k hkl hn).2.1 e.symm), hk _ (h3 k hkl hn).1 (hxl k hkl hn)]
  ·have e : k = ls.length := by simp at hk'; omega
   subst e
   refine ⟨rv, by rw [List.getElem?_append_right (by omega)]; simp [show ls.length - vs'.length = 0 by omega], ?_⟩
   rw [getl_app2]
   simp only [Nat.lt_irrefl, if_false]
   exact hx.keep fun hn => hg.block _ (hx.lt hn) (fun e => by have := hvl b e.symm; have := hbn hn; omega)
 ·by_cases hkl : k < ls.length
  ·rw [getl_app1 hkl] at hn
   simp only [hkl, if_true]
   obtain ⟨h4, h5, h6⟩ := h3 k hkl hn
   refine ⟨h4, hne1 _ (Nat.lt_of_lt_of_le (hxl k hkl hn) hz) h5, fun j hj hjk hnj => ?_⟩
   by_cases hjl : j < ls.length
   ·rw [getl_app1 hjl] at hnj
    simp only [hjl, if_true]
    exact h6 j hjl hjk hnj
   ·have e : j = ls.length := by simp at hj; omega
    subst e
    rw [getl_app2] at hnj
    simp only [Nat.lt_irrefl, if_false]
    have := hbn hnj; have := hxl k hkl hn; omega
  ·have e : k = ls.length := by simp at hk'; omega
   subst e
   rw [getl_app2] at hn
   simp only [Nat.lt_irrefl, if_false]
   refine ⟨by have := hbn hn; omega, hne1 _ (hx.lt hn) (fun e => by have := hvl b e; have := hbn hn; omega), fun j hj hjk hnj => ?_⟩
   have hjl : j < ls.length := by simp at hj; omega
   rw [getl_app1 hjl] at hnj
   simp only [hjl, if_true]
   have := hbn hn; have := hxl j hjl hnj; omega
theorem geti_setD {l : List Int} {k j : Nat} {x : Int} (h : j < l.length) : geti (l.set k x) j = if k = j then x else geti l j := by
 rw [geti_eq (by simpa using h), List.getElem_set, geti_eq h]
theorem getl_set {l : List (List Int)} {k j : Nat} {x : List Int} (h : j < l.length) : getl (l.set k x) j = if k = j then x else getl l j := by
 rw [getl_eq (by simpa using h), List.getElem_set, getl_eq h]
def setT (ls : List (List Int)) (i k : Nat) (x : Int) : List (List Int) := ls.set i ((getl ls i).set k x)
theorem setT_len (ls : List (List Int)) (i k : Nat) (x : Int) : (setT ls i k x).length = ls.length := by simp [setT]
theorem setT_row {ls : List (List Int)} {i k j : Nat} {x : Int} (h : j < ls.length) : (getl (setT ls i k x) j).length = (getl ls j).length := by
 unfold setT
 rw [getl_set h]
 split
 ·rename_i e; subst e; simp
 ·rfl
/-- A cell of a table in memory of its own may be written. -/
theorem F2.put {B : Nat} {w : World} {a : Option Addr} {n c i k : Nat} {ls : List (List Int)} (h : F2 B w (.slice a n c) ls) (hi : i < ls.length) (hk : k < (getl ls i).length) :
  ∃ ob off b o2 rc u, a = some ⟨ob, off, none⟩ ∧ w.cell? ⟨ob, off + i, none⟩ = some (.slice (some ⟨b, o2, none⟩) (getl ls i).length rc) ∧ B ≤ b ∧ w.cell? ⟨b, o2 + k, none⟩ = some u ∧ w.frozen? ⟨b, o2 + k, none⟩ = false ∧
    ∀ x, F2 B (w.setCell ⟨b, o2 + k, none⟩ (.int .i64 x)) (.slice a n c) (setT ls i k x) := by
 obtain ⟨ob, bk, ⟨a', c', e, h1, h2, h3, h4⟩, h5, h6⟩ := h
 simp only [Value.slice.injEq] at e
 obtain ⟨rfl, rfl, rfl⟩ := e
 have hn : ls ≠ [] := by intro e; subst e; simp at hi
 have hni : getl ls i ≠ [] := by intro e; rw [e] at hk; simp at hk
 obtain ⟨off, cs, e, rfl, hh, hrows⟩ := h3 hn
 obtain ⟨rv, hc1, a1, c1, rfl, g1, g2, g3⟩ := hrows i hi
 obtain ⟨o2, cs2, e2, rfl, hh2, hcells⟩ := g3 hni
 have hd := h4 i hi hni
 have hob : ob ≠ bk i := fun e => hd.1 e.symm
 refine ⟨ob, off, bk i, o2, c1, _, rfl, by rw [cell_of_block hh]; exact hc1, h6 i hi hni, by rw [cell_of_block hh2]; exact hcells k hk, frozen_of_block hh2 _, fun x => ?_⟩
 have hset : (w.setCell ⟨bk i, o2 + k, none⟩ (.int .i64 x)).heap[bk i]? = some (.cells (cs2.setIfInBounds (o2 + k) (.int .i64 x)) e2 (0, 0)) := by rw [heap_setCell_self hh2]
 have hnn : ∀ j, j < ls.length → (getl (setT ls i k x) j ≠ [] ↔ getl ls j ≠ []) := fun j hj => by
  have := setT_row (i := i) (k := k) (x := x) hj
  rw [← List.length_pos_iff, ← List.length_pos_iff, this]
 refine ⟨ob, bk, ⟨_, c, by rw [setT_len], by rw [setT_len]; exact h1, h2, fun _ => ⟨off, cs, e, rfl, (heap_setCell_other _ hob).trans hh, fun j hj => ?_⟩, fun j hj hjn => ?_⟩, fun _ => h5 hn, fun j hj hjn => ?_⟩
 ·rw [setT_len] at hj
  obtain ⟨rv, g4, g5⟩ := hrows j hj
  refine ⟨rv, g4, ?_⟩
  by_cases hij : i = j
  ·subst hij
   rw [hc1] at g4
   injection g4 with g4
   subst g4
   have hlen : (getl (setT ls i k x) i).length = (getl ls i).length := setT_row hj
   refine ⟨_, c1, by rw [hlen], by rw [hlen]; exact g1, g2, fun _ => ⟨o2, _, e2, rfl, hset, fun q hq => ?_⟩⟩
   rw [hlen] at hq
   have hrow : getl (setT ls i k x) i = (getl ls i).set k x := by unfold setT; rw [getl_set hj, if_pos rfl]
   have hcq := hcells q hq
   have hqs : o2 + q < cs2.size := (Array.getElem?_eq_some_iff.1 hcq).1
   rw [hrow, geti_setD hq, Array.getElem?_setIfInBounds]
   by_cases hkq : k = q
   ·subst hkq
    simp [hqs]
   ·rw [if_neg (by omega), if_neg hkq]
    exact hcq
  ·have hrow : getl (setT ls i k x) j = getl ls j := by unfold setT; rw [getl_set hj, if_neg hij]
   rw [hrow]
   exact g5.keep fun hn' => heap_setCell_other _ (fun e => (hd.2 j hj (fun e2 => hij e2.symm) hn') e)
 ·rw [setT_len] at hj
  obtain ⟨g4, g5⟩ := h4 j hj ((hnn j hj).1 hjn)
  exact ⟨g4, fun q hq hqj hqn => by rw [setT_len] at hq; exact g5 q hq hqj ((hnn q hq).1 hqn)⟩
 ·rw [setT_len] at hj
  exact h6 j hj ((hnn j hj).1 hjn)
/-- All rows of a table have so many columns. -/
def Shape (T : List (List Int)) (C : Nat) : Prop := ∀ j, j < T.length → (getl T j).length = C
theorem Shape.set {T : List (List Int)} {C i k : Nat} {x : Int} (h : Shape T C) : Shape (setT T i k x) C := fun j hj => by
 rw [setT_len] at hj
 rw [setT_row hj]
 exact h j hj
theorem Shape.snoc {T : List (List Int)} {C : Nat} {l : List Int} (h : Shape T C) (hl : l.length = C) : Shape (T ++ [l]) C := fun j hj => by
 by_cases hjl : j < T.length
 ·rw [getl_app1 hjl]; exact h j hjl
 ·have e : j = T.length := by simp at hj; omega
  subst e
  rw [getl_app2]; exact hl
/-- And of 0 and 1 only. -/
def ShapeB (T : List (List Int)) (C : Nat) : Prop := Shape T C ∧ ∀ j, j < T.length → ∀ x ∈ getl T j, 0 ≤ x ∧ x ≤ 1
theorem ShapeB.set1 {T : List (List Int)} {C i k : Nat} (h : ShapeB T C) : ShapeB (setT T i k 1) C := by
 refine ⟨h.1.set, fun j hj x hx => ?_⟩
 rw [setT_len] at hj
 unfold setT at hx
 rw [getl_set hj] at hx
 split at hx
 ·rename_i e
  subst e
  rcases List.mem_or_eq_of_mem_set hx with h1 | h1
  ·exact h.2 i hj x h1
  ·omega
 ·exact h.2 j hj x hx
theorem ShapeB.snoc {T : List (List Int)} {C : Nat} {l : List Int} (h : ShapeB T C) (hl : l.length = C) (hb : ∀ x ∈ l, 0 ≤ x ∧ x ≤ 1) : ShapeB (T ++ [l]) C := by
 refine ⟨h.1.snoc hl, fun j hj x hx => ?_⟩
 by_cases hjl : j < T.length
 ·rw [getl_app1 hjl] at hx; exact h.2 j hjl x hx
 ·have e : j = T.length := by simp at hj; omega
  subst e
  rw [getl_app2] at hx; exact hb x hx
/-- A system in its block is the answer. -/
def putS (w : World) (RB : Nat) (v0 v1 v2 v3 v4 v5 : Value) : World := (putR w RB v0 v1 v2 v3 v4).setCell ⟨RB, 5, none⟩ v5
theorem putS_facts {B0 SB RB : Nat} {W w : World} {c0 c1 c2 c3 c4 c5 : Value} (hs : Src B0 SB w) (ho : Only SB W w) (h : w.heap[RB]? = some (.cells #[c0, c1, c2, c3, c4, c5] 35 (0, 0))) (n1 : RB ≠ SB) (n2 : W.heap.size ≤ RB) (n3 : B0 ≤ RB) (v0 v1 v2 v3 v4 v5 : Value) :
  Src B0 SB (putS w RB v0 v1 v2 v3 v4 v5) ∧ Only SB W (putS w RB v0 v1 v2 v3 v4 v5) ∧ (putS w RB v0 v1 v2 v3 v4 v5).heap[RB]? = some (.cells #[v0, v1, v2, v3, v4, v5] 35 (0, 0)) ∧ ∀ b, b ≠ RB → (putS w RB v0 v1 v2 v3 v4 v5).heap[b]? = w.heap[b]? := by
 refine ⟨(((((hs.only n1 n3 v0 rfl).only n1 n3 v1 rfl).only n1 n3 v2 rfl).only n1 n3 v3 rfl).only n1 n3 v4 rfl).only n1 n3 v5 rfl, (((((ho.setNew n2 v0).setNew n2 v1).setNew n2 v2).setNew n2 v3).setNew n2 v4).setNew n2 v5, ?_, fun b hb => ?_⟩
 ·unfold putS putR
  rw [heap_setCell_self (heap_setCell_self (heap_setCell_self (heap_setCell_self (heap_setCell_self (heap_setCell_self h _) _) _) _) _) _]
  simp
 ·unfold putS putR
  (repeat rw [heap_setCell_other _ hb])
theorem F2.keepb {B : Nat} {w w' : World} {v : Value} {ls : List (List Int)} (h : F2 B w v ls) (hk : ∀ b, B ≤ b → b < w.heap.size → w'.heap[b]? = w.heap[b]?) : F2 B w' v ls := by
 obtain ⟨ob, bk, h1, h2, h3⟩ := h
 exact ⟨ob, bk, h1.keep (fun hn => hk _ (h2 hn) (h1.lt hn).1) (fun k hlt hn => hk _ (h3 k hlt hn) ((h1.lt (by intro e; subst e; simp at hlt)).2 k hlt hn)), h2, h3⟩
set_option maxRecDepth 100000 in
set_option maxHeartbeats 4000000 in
theorem l15Valid_any (B0 SB : Nat) (W : World) (h : Src B0 SB W) :
  Calls Tryz.prog 91 #[.pointer (some ⟨SB, 0, none⟩)] W fun e w' => ∃ (m : Mk) (u : Value) (T : List (List Int)) (C : Nat), e = .returned (.agg #[.int .i64 m.c, .int .i64 m.d, .int .i64 m.s, .int .i64 m.e, .int .i64 m.l, u]) ∧ (m.ok = true ∧ m.c ≤ 4 ∧ m.d ≤ 4) ∧ (F2 W.heap.size w' u T ∧ (1 ≤ T.length ∧ T.length ≤ 4) ∧ (1 ≤ C ∧ C ≤ 4) ∧ ShapeB T C) ∧ Src B0 SB w' ∧ Only SB W w' := by
 have hSl := h.lt
 have hB0 : B0 ≤ SB := h.1
 obtain ⟨W1, hW1, hB01, hz01, HZ01, _, hh01⟩ := box_facts W #[.int .i64 0, .int .i64 0, .int .i64 0, .int .i64 0, .int .i64 0, .slice none 0 0] 35
 have hs1' := h.below hB01
 have HL := Lib.hid (And.intro hs1' (And.intro hB01 (And.intro hh01 hW1))); clear hs1' h hh01 hB01
 go_enter Tryz.func91, Tryz.ntmps91
 go_wp2_with fail
 rw [← hW1]
 clear hW1
 refine (l02Valid_any B0 SB _ HL.out.1).mono ?_
 rintro e' w2 ⟨m, rfl, hmk, hs2, ho2⟩
 have hz2 := ho2.size
 obtain ⟨w3, hw3⟩ : ∃ w3, w3 = w2.alloc (.cells #[.int .i64 m.c, .int .i64 m.d, .int .i64 m.s, .int .i64 m.e, .int .i64 m.l] 32) := ⟨_, rfl⟩
 have hb23 : Below w2.heap.size w2 w3 := by rw [hw3]; exact (Below.refl _ _).alloc (Nat.le_refl _) _
 have hM3 : w3.heap[w2.heap.size]? = some (.cells #[.int .i64 m.c, .int .i64 m.d, .int .i64 m.s, .int .i64 m.e, .int .i64 m.l] 32 (0, 0)) := by rw [hw3]; exact heap_alloc_self _ _
 have hR3 : w3.heap[W.heap.size]? = some (.cells #[.int .i64 0, .int .i64 0, .int .i64 0, .int .i64 0, .int .i64 0, .slice none 0 0] 35 (0, 0)) := (hb23.block _ (by omega)).trans (ho2.heap HL.out.2.2.1 (fun e => by omega))
 have ho3 : Only SB W w3 := ((Only.of_below HL.out.2.1).trans ho2).then_below hb23
 have H3 := Lib.hid (And.intro (hs2.below hb23) (And.intro ho3 (And.intro hM3 (And.intro hR3 (And.intro hmk hw3))))); clear hs2 ho2 hb23 hM3 hR3 ho3 hmk hw3
 have hz3 : w2.heap.size < w3.heap.size := lt_of_heap H3.out.2.2.1
 go_wp2_with fail
 rw [← H3.out.2.2.2.2.2]
 refine (l01Next_any B0 SB 4 _ H3.out.1).mono ?_
 rintro e' w4 ⟨x1, rfl, ⟨hx10, hx11⟩, hs4, ho4⟩
 have H4 := Lib.hid (And.intro hs4 (H3.out.2.1.trans ho4))
 have ho34 := Lib.hid ho4
 clear hs4 ho4
 go_wp2_with fail
 refine (l01Next_any B0 SB 4 _ H4.out.1).mono ?_
 rintro e' w5 ⟨x2, rfl, ⟨hx20, hx21⟩, hs5, ho5⟩
 obtain ⟨R, hR⟩ : ∃ R : Nat, (R : Int) = 1 + x1 := ⟨(1 + x1).toNat, by omega⟩
 obtain ⟨C, hC⟩ : ∃ C : Nat, (C : Int) = 1 + x2 := ⟨(1 + x2).toNat, by omega⟩
 have hR4 : 1 ≤ R ∧ R ≤ 4 := by omega
 have hC4 : 1 ≤ C ∧ C ≤ 4 := by omega
 have ho35 := ho34.out.trans ho5
 have hz5 := ho35.size
 have hM5 := ho35.heap H3.out.2.2.1 (fun e => by have := H3.out.1.1; omega)
 have hR5 := ho35.heap H3.out.2.2.2.1 (fun e => by omega)
 have hO0 := Out2.start w5 w5.heap.size (Nat.le_refl _)
 have hbL : Below w5.heap.size w5 (w5.alloc (.cells #[] 57)) := (Below.refl _ _).alloc (Nat.le_refl _) _
 have H5 := Lib.hid (And.intro (hs5.below hbL) (And.intro (H4.out.2.trans ho5) (And.intro hM5 (And.intro hR5 (And.intro hO0 (Only.of_below (SB := SB) hbL)))))); clear hs5 ho5 ho35 hM5 hR5 hO0 hbL ho34
 have hRC := Lib.hid (And.intro hR hC)
 go_wp2_with fail
 rw [← hR, ← hC]
 clear hR hC hx10 hx11 hx20 hx21
 go_loopw [6, 7, 8, 9] (fun tv i _ _ wr => ∃ (k : Nat) (T : List (List Int)), k ≤ R ∧ i = .int .i64 (k : Int) ∧ T.length = k ∧ ShapeB T C ∧ Out2 w5.heap.size wr tv T ∧ Src B0 SB wr ∧ Only SB w5 wr) (fun _ i _ _ _ => R - (intOf i).toNat)
 case atStart => exact ⟨0, [], Nat.zero_le _, rfl, rfl, ⟨fun j hj => by simp at hj, fun j hj => by simp at hj⟩, H5.out.2.2.2.2.1, H5.out.1, H5.out.2.2.2.2.2⟩
 case round =>
  obtain ⟨k, T, hkR, rfl, hTk, hsh, hO, hsr, hor⟩ := hrel
  have hzr := hor.size
  by_cases hkk : (k : Int) < (R : Int)
  ·have hd : decide (k < R) = true := decide_eq_true (by omega)
   obtain ⟨wo, rfl⟩ : ∃ x, x = wr := ⟨_, rfl⟩
   have hown0 := own_lit0 wo wo.heap.size 2 1 (Nat.le_refl _)
   have hbl : Below wo.heap.size wo (wo.alloc (.cells #[] 2)) := (Below.refl _ _).alloc (Nat.le_refl _) _
   have hsl := hsr.below hbl
   have HR := Lib.hid (And.intro hTk (And.intro hsh (And.intro hO (And.intro hor (And.intro hsl (And.intro hown0 (Only.of_below (SB := SB) hbl)))))));  clear hTk hsh hO hor hsl hown0 hbl hsr
   go_wp2_with fail
   go_loopw [8, 9] (fun rv j wr => ∃ (q : Nat) (l : List Int), q ≤ C ∧ j = .int .i64 (q : Int) ∧ (l.length = q ∧ ∀ x ∈ l, 0 ≤ x ∧ x ≤ 1) ∧ wr.ownsRow wo.heap.size 2 1 rv l.length (l.map (Value.int .i64)) ∧ Src B0 SB wr ∧ Only SB wo wr) (fun _ j _ => C - (intOf j).toNat)
   case atStart => exact ⟨0, [], Nat.zero_le _, rfl, ⟨rfl, fun x hx => by cases hx⟩, HR.out.2.2.2.2.2.1, HR.out.2.2.2.2.1, HR.out.2.2.2.2.2.2⟩
   case round =>
    obtain ⟨q, l, hqC, rfl, ⟨hlq, hlb⟩, hown, hsi, hoi⟩ := hrel
    have hzi := hoi.size
    have hSr : SB < wo.heap.size := by omega
    by_cases hqq : (q : Int) < (C : Int)
    ·have hd2 : decide (q < C) = true := decide_eq_true (by omega)
     obtain ⟨oa, oc, rfl, _, _⟩ := own_form hown
     have hL := lit_V1 wr 2 [0, 0, 1] (by simp)
     have hbi : Below wr.heap.size wr (wr.alloc (.cells #[.int .i64 0, .int .i64 0, .int .i64 1] 2)) := (Below.refl _ _).alloc (Nat.le_refl _) _
     obtain ⟨wa, hwa⟩ : ∃ wa, wa = wr.alloc (.cells #[.int .i64 0, .int .i64 0, .int .i64 1] 2) := ⟨_, rfl⟩
     have hL : V1 (fun b => b = wr.heap.size) wa (.slice (some ⟨wr.heap.size, 0, none⟩) 3 3) [0, 0, 1] := by rw [hwa]; exact hL
     rw [← hwa] at hbi
     have hsa := hsi.below hbi
     have hoa := hoi.then_below hbi
     have howna := own_keep hown hbi
     have hza := hbi.size
     have HI := Lib.hid (And.intro hL (And.intro hsa (And.intro hoa (And.intro howna (And.intro hwa (And.intro hlq hlb)))))); clear hL hsa hoa howna hwa hlq hlb hown hsi hoi hbi
     go_wp2_with fail
     rw [← HI.out.2.2.2.2.1]
     refine (l01Pick_any B0 SB _ [0, 0, 1] wa HI.out.2.1 HI.out.1 (fun b hb => by omega) (by simp)).mono ?_
     rintro e' wb ⟨y, rfl, hy, hsb, hob⟩
     have hownb := own_only HI.out.2.2.2.1 hob hSr
     have hzb := hob.size
     have hob2 := HI.out.2.2.1.trans hob
     have hl9 : l.length ≤ 1000 := by have := HI.out.2.2.2.2.2.1; omega
     have HB := Lib.hid (And.intro hsb hob2); clear hsb hob hob2
     go_wp2_with (at_builtin; refine wp_app1 _ rfl _ _ 57 rfl wo.heap.size 2 (.int .i64 0) 8 Tryz.underlying57 inf_int rfl _ _ _ rfl hownb (.int .i64 y) _ rfl rfl (by omega) (by omega) (by omega) ?_; intro v1 w1 hown1 hgrow1 hblk1 hB1)
     have hown4 := own_ints (v := .slice oa l.length oc) hown1
     have hg1 : Chg (fun i => wo.heap.size ≤ i) wb w1 := (Chg.refl _ _).grown hgrow1 (fun g hg => .inl (hownb.lt g hg).1)
     have hsr1 := HB.out.1.keep hg1 (fun b hb => ⟨by have := HB.out.1.1; omega, by omega⟩)
     have hoW1 : Only SB wo w1 := Chg.trans HB.out.2 (G := fun i => wo.heap.size ≤ i) hg1 (fun i hi => .inr hi)
     have H4 := Lib.hid (And.intro hsr1 (And.intro hoW1 hown4)); clear hsr1 hoW1 hown4 hg1 hgrow1 hblk1 hB1 hown1 hownb
     go_roundw
     case rel => exact ⟨q + 1, l ++ [y], by omega, by go_num, ⟨by have := HI.out.2.2.2.2.2.1; simp; omega, fun x hx => by
      rcases List.mem_append.1 hx with h1 | h1
      ·exact HI.out.2.2.2.2.2.2 x h1
      ·simp at h1 hy; omega⟩, H4.out.2.2, H4.out.1, H4.out.2.1⟩
     case measure => simp [intOf]; omega
    ·have hd2 : decide (q < C) = false := decide_eq_false (by omega)
     have hqC2 : l.length = C := by omega
     obtain ⟨oa, oc, rfl, _, _⟩ := own_form hown
     obtain ⟨rb, hrb, hrbn⟩ := own_F1 hown
     have hO2 := HR.out.2.2.1.only hoi (by omega)
     obtain ⟨vs, hvs⟩ := HR.out.2.2.1.own
     obtain ⟨ta, tc, rfl, _, _⟩ := HR.out.2.2.1.form
     have hvs2 := own_only hvs hoi (by omega)
     have hTl : T.length ≤ 1000 := by have := HR.out.1; omega
     have HI := Lib.hid (And.intro hsi (And.intro hoi (And.intro hrb (And.intro hrbn (And.intro hvs (And.intro hqC2 hlb)))))); clear hsi hoi hrb hrbn hvs hqC2 hlq hlb hown hO2
     go_wp2_with (at_builtin; refine wp_app1 _ rfl _ _ 33 rfl w5.heap.size 57 (.slice none 0 0) 24 Tryz.underlying33 inf_ints rfl _ _ _ rfl hvs2 (.slice oa l.length oc) _ rfl rfl (by omega) (by omega) (by omega) ?_; intro v1 w1 hown1 hgrow1 hblk1 hB1)
     have hP := Out2.pushO HR.out.2.2.1 hzr hzi (fun b h1 h2 => HI.out.2.1.block b h2 (fun e => by omega)) HI.out.2.2.1 HI.out.2.2.2.1 HI.out.2.2.2.2.1 hown1 hgrow1 hblk1
     have hg1 : Chg (fun i => w5.heap.size ≤ i) wr w1 := (Chg.refl _ _).grown hgrow1 (fun g hg => .inl (hvs2.lt g hg).1)
     have hsr1 := HI.out.1.keep hg1 (fun b hb => ⟨by have := HI.out.1.1; omega, by omega⟩)
     have hoW1 : Only SB w5 w1 := Chg.trans (HR.out.2.2.2.1.trans HI.out.2.1) (G := fun i => w5.heap.size ≤ i) hg1 (fun i hi => .inr hi)
     have H4 := Lib.hid (And.intro hsr1 (And.intro hoW1 hP)); clear hsr1 hoW1 hP hg1 hgrow1 hblk1 hB1 hown1 hvs2
     go_roundw
     case rel => exact ⟨k + 1, T ++ [l], by omega, by go_num, by have := HR.out.1; simp; omega, HR.out.2.1.snoc HI.out.2.2.2.2.2.1 HI.out.2.2.2.2.2.2, H4.out.2.2, H4.out.1, H4.out.2.1⟩
     case measure => simp [intOf]; omega
  ·have hd : decide (k < R) = false := decide_eq_false (by omega)
   obtain ⟨ta, tc, rfl, _, _⟩ := hO.form
   have hkR2 : T.length = R := by omega
   have HR := Lib.hid (And.intro hkR2 (And.intro hsh (And.intro hO.f2 (And.intro hsr hor)))); clear hkR2 hTk hsh hO hsr hor
   obtain ⟨wo, rfl⟩ : ∃ x, x = wr := ⟨_, rfl⟩
   go_wp2_with fail
   refine (l01Next_any B0 SB _ _ HR.out.2.2.2.1).mono ?_
   rintro e' w6 ⟨x3, rfl, ⟨hx30, hx31⟩, hs6, ho6⟩
   obtain ⟨mm, rfl⟩ : ∃ mm : Nat, x3 = (mm : Int) := ⟨x3.toNat, by omega⟩
   have hmm : mm < R := by omega
   have hF6 := HR.out.2.2.1.only ho6 (by omega)
   have ho56 := HR.out.2.2.2.2.trans ho6
   have HQ := Lib.hid (And.intro hs6 (And.intro hF6 ho56)); clear hs6 hF6 ho56 ho6 hx30 hx31
   go_wp2_with fail
   go_loopw [11] (fun i wr => ∃ (k : Nat) (T' : List (List Int)), k ≤ C ∧ i = .int .i64 (k : Int) ∧ T'.length = R ∧ ShapeB T' C ∧ F2 w5.heap.size wr (.slice ta T.length tc) T' ∧ Src B0 SB wr ∧ Only SB w5 wr) (fun i _ => C - (intOf i).toNat)
   case atStart => exact ⟨0, T, Nat.zero_le _, rfl, HR.out.1, HR.out.2.1, HQ.out.2.1, HQ.out.1, HQ.out.2.2⟩
   case round =>
    obtain ⟨k, T', hkC, rfl, hTR, hsh, hF, hsr, hor⟩ := hrel
    have hzr := hor.size
    by_cases hkk : (k : Int) < (C : Int)
    ·have hd2 : decide (k < C) = true := decide_eq_true (by omega)
     have HT := Lib.hid (And.intro hTR (And.intro hsh (And.intro hF (And.intro hsr hor)))); clear hTR hsh hF hsr hor
     go_wp2_with fail
     refine (l01Next_any B0 SB 3 _ HT.out.2.2.2.1).mono ?_
     rintro e' w7 ⟨y, rfl, ⟨hy0, hy1⟩, hs7, ho7⟩
     have hF7 := HT.out.2.2.1.only ho7 (by omega)
     have ho57 := HT.out.2.2.2.2.trans ho7
     have hz7 := ho57.size
     by_cases hyp : 0 < y
     ·have hyd : decide (0 < y) = true := decide_eq_true hyp
      obtain ⟨ob, off, b, o2, rc, u, rfl, hc1, hb5, hc2, hfz, hput⟩ := hF7.put (i := mm) (k := k) (by have := HT.out.1; omega) (by rw [HT.out.2.1.1 mm (by have := HT.out.1; omega)]; omega)
      have hrl := HT.out.2.1.1 mm (by have := HT.out.1; omega)
      rw [hrl] at hc1
      have hF8 := hput 1
      obtain ⟨w8, hw8⟩ : ∃ w8, w8 = w7.setCell ⟨b, o2 + k, none⟩ (.int .i64 1) := ⟨_, rfl⟩
      rw [← hw8] at hF8
      have hs8 : Src B0 SB w8 := hs7.only (b := b) (off := o2 + k) (by omega) (by omega) _ hw8
      have ho58 : Only SB w5 w8 := by rw [hw8]; exact ho57.setNew hb5 _
      have H8 := Lib.hid (And.intro hF8 (And.intro hs8 (And.intro ho58 hw8))); clear hF8 hs8 ho58 hw8 hput hF7 hs7 ho57 ho7 hrl
      have hnT : mm < T.length := by have := HR.out.1; omega
      go_wp2_with fail
      rw [← H8.out.2.2.2]
      refine (l01Next_any B0 SB _ _ H8.out.2.1).mono ?_
      rintro e' w9 ⟨z, rfl, ⟨hz0, hz1⟩, hs9, ho9⟩
      obtain ⟨rr, rfl⟩ : ∃ rr : Nat, z = (rr : Int) := ⟨z.toNat, by omega⟩
      have hrr : rr < R := by omega
      have hF9 := F2.only H8.out.1 ho9 (by omega)
      have ho59 := Only.trans H8.out.2.2.1 ho9
      have hz9 := ho59.size
      have hLN := ((setT_len _ mm k 1).trans HT.out.1)
      have hSH := HT.out.2.1.set1 (i := mm) (k := k)
      obtain ⟨ob2, off2, b2, p2, rc2, u2, e2, hd1, hb52, hd22, hfz2, hput2⟩ := hF9.put (i := rr) (k := k) (by omega) (by rw [hSH.1 rr (by omega)]; omega)
      have hrl2 := hSH.1 rr (by omega)
      rw [hrl2] at hd1
      have hFA := hput2 1
      obtain ⟨wA, hwA⟩ : ∃ wA, wA = w9.setCell ⟨b2, p2 + k, none⟩ (.int .i64 1) := ⟨_, rfl⟩
      rw [← hwA] at hFA
      have hsA : Src B0 SB wA := hs9.only (b := b2) (off := p2 + k) (by omega) (by omega) _ hwA
      have ho5A : Only SB w5 wA := by rw [hwA]; exact ho59.setNew hb52 _
      have hShA : ShapeB _ C := hSH.set1 (i := rr) (k := k)
      have HA9 := Lib.hid (And.intro hFA (And.intro hsA (And.intro ho5A (And.intro hwA (And.intro hShA (setT_len _ rr k 1 |>.trans hLN)))))); clear hFA hsA ho5A hwA hput2 hF9 hs9 ho59 ho9 hrl2 hShA hLN hSH
      have hnT2 : rr < T.length := by have := HR.out.1; omega
      first | (subst e2) | (simp only [Option.some.injEq, Addr.mk.injEq, and_true] at e2; obtain ⟨rfl, rfl⟩ := e2)
      go_wp2_with fail
      rw [← HA9.out.2.2.2.1]
      go_roundw
      case rel => exact ⟨k + 1, _, by omega, by go_num, HA9.out.2.2.2.2.2, HA9.out.2.2.2.2.1, HA9.out.1, HA9.out.2.1, HA9.out.2.2.1⟩
      case measure => simp [intOf]; omega
     ·have hyd : decide (0 < y) = false := decide_eq_false hyp
      have H8 := Lib.hid (And.intro hF7 (And.intro hs7 ho57)); clear hF7 hs7 ho57 ho7
      go_wp2_with fail
      refine (l01Next_any B0 SB _ _ H8.out.2.1).mono ?_
      rintro e' w9 ⟨z, rfl, ⟨hz0, hz1⟩, hs9, ho9⟩
      obtain ⟨rr, rfl⟩ : ∃ rr : Nat, z = (rr : Int) := ⟨z.toNat, by omega⟩
      have hrr : rr < R := by omega
      have hF9 := F2.only H8.out.1 ho9 (by omega)
      have ho59 := Only.trans H8.out.2.2 ho9
      have hz9 := ho59.size
      have hLN := HT.out.1
      have hSH := HT.out.2.1
      obtain ⟨ob2, off2, b2, p2, rc2, u2, e2, hd1, hb52, hd22, hfz2, hput2⟩ := hF9.put (i := rr) (k := k) (by omega) (by rw [hSH.1 rr (by omega)]; omega)
      have hrl2 := hSH.1 rr (by omega)
      rw [hrl2] at hd1
      have hFA := hput2 1
      obtain ⟨wA, hwA⟩ : ∃ wA, wA = w9.setCell ⟨b2, p2 + k, none⟩ (.int .i64 1) := ⟨_, rfl⟩
      rw [← hwA] at hFA
      have hsA : Src B0 SB wA := hs9.only (b := b2) (off := p2 + k) (by omega) (by omega) _ hwA
      have ho5A : Only SB w5 wA := by rw [hwA]; exact ho59.setNew hb52 _
      have hShA : ShapeB _ C := hSH.set1 (i := rr) (k := k)
      have HA9 := Lib.hid (And.intro hFA (And.intro hsA (And.intro ho5A (And.intro hwA (And.intro hShA (setT_len _ rr k 1 |>.trans hLN)))))); clear hFA hsA ho5A hwA hput2 hF9 hs9 ho59 ho9 hrl2 hShA hLN hSH
      have hnT2 : rr < T.length := by have := HR.out.1; omega
      first | (subst e2) | (simp only [Option.some.injEq, Addr.mk.injEq, and_true] at e2; obtain ⟨rfl, rfl⟩ := e2)
      go_wp2_with fail
      rw [← HA9.out.2.2.2.1]
      go_roundw
      case rel => exact ⟨k + 1, _, by omega, by go_num, HA9.out.2.2.2.2.2, HA9.out.2.2.2.2.1, HA9.out.1, HA9.out.2.1, HA9.out.2.2.1⟩
      case measure => simp [intOf]; omega
    ·have hd2 : decide (k < C) = false := decide_eq_false (by omega)
     have hM6 := hor.heap H5.out.2.2.1 (fun e => by have := H3.out.1.1; have := lt_of_heap H5.out.2.2.1; omega)
     have hR6 := hor.heap H5.out.2.2.2.1 (fun e => by omega)
     have hcM : ∀ o, wr.cell? ⟨w2.heap.size, o, none⟩ = (#[.int .i64 m.c, .int .i64 m.d, .int .i64 m.s, .int .i64 m.e, .int .i64 m.l] : Array Value)[o]? := fun o => by rw [cell_of_block hM6]
     have hcR : ∀ o, wr.cell? ⟨W.heap.size, o, none⟩ = (#[.int .i64 0, .int .i64 0, .int .i64 0, .int .i64 0, .int .i64 0, .slice none 0 0] : Array Value)[o]? := fun o => by rw [cell_of_block hR6]
     have hfR := fun o => frozen_of_block hR6 o
     have hoW := H5.out.2.1.trans hor
     have hdone := putS_facts hsr hoW hR6 (by omega) (Nat.le_refl _) (by have := hsr.1; omega) (.int .i64 m.c) (.int .i64 m.d) (.int .i64 m.s) (.int .i64 m.e) (.int .i64 m.l) (.slice ta T.length tc)
     have hFz : F2 W.heap.size (putS wr W.heap.size (.int .i64 m.c) (.int .i64 m.d) (.int .i64 m.s) (.int .i64 m.e) (.int .i64 m.l) (.slice ta T.length tc)) (.slice ta T.length tc) T' := (hF.keepb (fun b h1 h2 => hdone.2.2.2 b (by omega))).mono (by omega)
     have HZ := Lib.hid (And.intro hdone (And.intro hFz (And.intro hTR hsh))); clear hdone hFz hF hsr hor hTR hsh hM6 hR6 hoW
     go_wp2_with fail
     obtain ⟨wz, hwz⟩ : ∃ wz, wz = putS wr W.heap.size (.int .i64 m.c) (.int .i64 m.d) (.int .i64 m.s) (.int .i64 m.e) (.int .i64 m.l) (.slice ta T.length tc) := ⟨_, rfl⟩
     have hZ := HZ.out
     rw [← hwz] at hZ
     unfold putS putR at hwz
     rw [← hwz]
     obtain ⟨⟨hd1, hd2, hd3, _⟩, hFz, hTR, hsh⟩ := hZ
     have hz0 : wz.cell? ⟨W.heap.size, 0, none⟩ = some (.int .i64 m.c) := by rw [cell_of_block hd3]; rfl
     have hz1 : wz.cell? ⟨W.heap.size, 1, none⟩ = some (.int .i64 m.d) := by rw [cell_of_block hd3]; rfl
     have hz2 : wz.cell? ⟨W.heap.size, 2, none⟩ = some (.int .i64 m.s) := by rw [cell_of_block hd3]; rfl
     have hz3 : wz.cell? ⟨W.heap.size, 3, none⟩ = some (.int .i64 m.e) := by rw [cell_of_block hd3]; rfl
     have hz4 : wz.cell? ⟨W.heap.size, 4, none⟩ = some (.int .i64 m.l) := by rw [cell_of_block hd3]; rfl
     have hz5 : wz.cell? ⟨W.heap.size, 5, none⟩ = some (.slice ta T.length tc) := by rw [cell_of_block hd3]; rfl
     exact bodyPost_ret (v := .agg #[.int .i64 m.c, .int .i64 m.d, .int .i64 m.s, .int .i64 m.e, .int .i64 m.l, .slice ta T.length tc]) (by simp [results, Tryz.results91, go_sem, hz0, hz1, hz2, hz3, hz4, hz5]) rfl ⟨m, _, rfl, H3.out.2.2.2.2.1, ⟨T', hFz, ⟨by omega, by omega⟩, C, hC4, hsh⟩, hd1, hd2⟩
end Go.Proofs.YtbekpololmahoaaGreatDoor
