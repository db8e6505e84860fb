/- The search for a design that begins with partial cuts: the program and the reference. No conditions. -/
import Derived.OwnWalk
import Derived.Test.YtmaefilliggjiaaGreatMGoC
import Derived.Test.YtmaefilliggjiaaGreatMReasR
namespace Go.Proofs.YtmaefilliggjiaaGreat
open Go.RowKit
set_option linter.unusedVariables false
set_option linter.unusedSimpArgs false
theorem F2.nil5 {B : Nat} {w : World} : F2 B w (.slice none 0 0) [] := ⟨0, fun _ => 0, ⟨none, 0, rfl, Nat.le_refl _, Nat.zero_le _, fun hn => absurd rfl hn, fun k hk => by simp at hk⟩, fun hn => absurd rfl hn, fun k hk => by simp at hk⟩
set_option maxRecDepth 100000 in
set_option maxHeartbeats 1000000 in
theorem l17Run_any {S S' : Nat → Prop} (m : Mk) (u v : Value) (t cuts : List (List Int)) (most : Int) (limit : Nat) (W : World) (h : V2 S W u t) (hc : V2 S' W v cuts) (hcp : cuts = [] → PV v) (hok : PartOk m t cuts) (hmo : most ≤ 1000000) (hlim : limit ≤ 4000) :
  Calls Tryz.prog 162 #[.agg #[.int .i64 m.c, .int .i64 m.d, .int .i64 m.s, .int .i64 m.e, .int .i64 m.l, u], v, .int .i64 most, .int .i64 (limit : Int)] W fun e w' => ∃ RB fv, e = .returned (.pointer (some ⟨RB, 0, none⟩)) ∧ Sg m u limit most RB W.heap.size (firstF m.c.toNat t (keysOf m) cuts most limit) fv w' ∧ Below W.heap.size W w' := by
 obtain ⟨a, c, rfl, hmx⟩ := h.form
 obtain ⟨a', c', rfl, hmx'⟩ := hc.form
 have hmk := Mk.ok_iff.1 hok.fits.ok
 have hfew := hok.few
 obtain ⟨WA, hWA⟩ : ∃ WA, WA = (W.alloc (.cells #[.int .i64 m.c, .int .i64 m.d, .int .i64 m.s, .int .i64 m.e, .int .i64 m.l, .slice a t.length c] 28)).alloc (.cells #[.int .i64 m.c, .int .i64 m.d, .int .i64 m.s, .int .i64 m.e, .int .i64 m.l, .slice a t.length c, .int .i64 (limit : Int), .int .i64 most, .int .i64 0, .bool false, .slice none 0 0] 109) := ⟨_, rfl⟩
 have hbA : Below W.heap.size W WA := by rw [hWA]; exact by (repeat (first | (with_reducible refine Below.setCell ?_ ?_ _) | (with_reducible refine Below.alloc ?_ ?_ _) | (with_reducible refine Below.drew ?_) | (with_reducible refine below_drewN ?_ _) | (with_reducible exact Below.refl _ _) | (with_reducible assumption) | (with_reducible refine Below.trans ?_ (Below.mono (by with_reducible assumption) ?_)) | go_size))
 have hzA : WA.heap.size = W.heap.size + 2 := by rw [hWA]; simp
 have hA1 : WA.heap[W.heap.size + 1]? = some (.cells (sgCells m (.slice a t.length c) (.slice none 0 0) limit most (0, false, [])) 109 (0, 0)) := by rw [hWA]; simp only [heap_alloc_at, World.size_alloc]; simp [sgCells]
 have hSg : Sg m (.slice a t.length c) limit most (W.heap.size + 1) W.heap.size (0, false, []) (.slice none 0 0) WA :=
  ⟨hA1, ⟨[], ⟨rfl, .inl ⟨rfl, rfl⟩⟩, fun k hk => by simp at hk⟩, by simp [Value.ownBlock], ⟨Nat.zero_le _, hlim⟩, by omega⟩
 have hno : ∀ b, b < W.heap.size → ¬ RG (W.heap.size + 1) (.slice none 0 0) b := fun b hb h => by
  rcases h with h | h
  ·omega
  ·simp [Value.ownBlock] at h
 by_cases hmp : 0 < most
 ·have hfin : firstF m.c.toNat t (keysOf m) cuts most limit = (goF limit (stayP m.c.toNat t) (visK most) (keysOf m) (t.length - cuts.length) cuts (0, false, [])).1 := by unfold firstF; rw [if_pos hmp]
  rw [hfin]
  have hgo := l17From_any m t m.c.toNat (by omega) (.slice a t.length c) limit most hmo (W.heap.size + 1) W.heap.size (t.length - cuts.length) cuts (.slice a' cuts.length c') (0, false, []) (.slice none 0 0) WA (by omega)
   ⟨hSg, h.old.mono (fun b h1 _ => hno b h1) (fun b _ h2 => hbA.block b h2), hc.old.mono (fun b h1 _ => hno b h1) (fun b _ h2 => hbA.block b h2), hcp, hok, by show (([] : List (List (List Int))).length : Int) < most; simp; omega⟩
  obtain ⟨r, hr⟩ : ∃ r, goF limit (stayP m.c.toNat t) (visK most) (keysOf m) (t.length - cuts.length) cuts (0, false, []) = r := ⟨_, rfl⟩
  rw [hr] at hgo ⊢
  have hgr : decide (0 < most) = true := decide_eq_true hmp
  have HWA := Lib.hid (And.intro hWA (And.intro hgo (And.intro hbA (And.intro hr hok)))); clear hWA hgo hbA hSg hno hA1 hok hr hfin
  go_enter Tryz.func162, Tryz.ntmps162
  go_wp2_with fail
  rw [← HWA.out.1]
  refine HWA.out.2.1.mono ?_
  rintro e' w' ⟨fv, rfl, hG, hch, hsub⟩
  have hb' : Below W.heap.size W w' := HWA.out.2.2.1.trans (hch.to_below (B := W.heap.size) (fun b hb => by
   rcases hb with e | e
   ·omega
   ·simp [Value.ownBlock] at e) (by omega))
  have HF := Lib.hid (And.intro hG hb'); clear hG hch hsub hb'
  go_wp2_with fail
  go_ret
  exact ⟨_, fv, rfl, HF.out.1, HF.out.2⟩
 ·have hfin : firstF m.c.toNat t (keysOf m) cuts most limit = (0, false, []) := by unfold firstF; rw [if_neg hmp]
  rw [hfin]
  have hgr : decide (0 < most) = false := decide_eq_false hmp
  have HWA := Lib.hid (And.intro hWA (And.intro hSg hbA)); clear hWA hSg hbA hno hA1 hok hfin
  go_enter Tryz.func162, Tryz.ntmps162
  go_wp2_with fail
  rw [← HWA.out.1]
  go_ret
  exact ⟨_, rfl, ⟨_, HWA.out.2.1⟩, HWA.out.2.2⟩
set_option maxRecDepth 100000 in
set_option maxHeartbeats 1000000 in
theorem l17First_any (m : Mk) (tv : Value) (t : List (List Int)) (limit : Nat) (most : Int) (RB B : Nat) (s : DSt) (fv : Value) (W : World) (h : Sg m tv limit most RB B s fv W) (hd : ∀ x ∈ s.2.2, DesOk m t x) :
  Calls Tryz.prog 107 #[.pointer (some ⟨RB, 0, none⟩)] W fun e w' => ∃ v', e = .returned (.tuple #[v', .int .i64 (pickA s).2.1, .int .i64 (pickA s).2.2]) ∧ F2 W.heap.size w' v' (pickA s).1 ∧ Below W.heap.size W w' := by
 obtain ⟨s1, s2, sl⟩ := s
 have hr := h.cell
 cases sl with
 | nil =>
   obtain ⟨fa, fc, rfl, _⟩ := h.form
   have hx : ∀ o, W.cell? ⟨RB, o, none⟩ = (#[.int .i64 m.c, .int .i64 m.d, .int .i64 m.s, .int .i64 m.e, .int .i64 m.l, tv, .int .i64 (limit : Int), .int .i64 most, .int .i64 (s1 : Int), .bool s2, .slice fa 0 fc] : Array Value)[o]? := fun o => by rw [hr]; rfl
   clear hr h hd
   cases s2
   ·go_enter Tryz.func107, Tryz.ntmps107
    go_wp2_with fail
    go_ret3
    exact ⟨_, rfl, F2.nil5, Below.refl _ _⟩
   ·go_enter Tryz.func107, Tryz.ntmps107
    go_wp2_with fail
    go_ret3
    exact ⟨_, rfl, F2.nil5, Below.refl _ _⟩
 | cons d ds =>
   show Calls _ _ _ _ fun e' w' => ∃ v', e' = .returned (.tuple #[v', .int .i64 (s1 : Int), .int .i64 0]) ∧ F2 W.heap.size w' v' d ∧ Below W.heap.size W w'
   obtain ⟨vs, hvs, hvs2⟩ := h.own
   obtain ⟨g, cap, rfl, _, _⟩ := own_some hvs (by simp)
   obtain ⟨rv, h1, h2⟩ := hvs2 0 (by simp)
   have h2 : V2 (fun b => ¬ RG RB (.slice (some ⟨g, 0, none⟩) (d :: ds).length cap) b) W rv d := h2
   have hcc : W.cell? ⟨g, 0, none⟩ = some rv := by
    have h3 := hvs.cells (g := g) rfl 0 rv h1
    simpa [Addr.add] using h3
   have hfew := (hd d (List.mem_cons_self ..)).few
   have hll := fun w (hb : Below W.heap.size W w) => l15Lists_any rv d w (h2.below hb) (by omega) (fun k hk => ⟨by have := (hfew.2 k hk).1; omega, (hfew.2 k hk).2⟩)
   obtain ⟨ra, rc, rfl, _⟩ := h2.form
   have hx : ∀ o, W.cell? ⟨RB, o, none⟩ = (#[.int .i64 m.c, .int .i64 m.d, .int .i64 m.s, .int .i64 m.e, .int .i64 m.l, tv, .int .i64 (limit : Int), .int .i64 most, .int .i64 (s1 : Int), .bool s2, .slice (some ⟨g, 0, none⟩) (d :: ds).length cap] : Array Value)[o]? := fun o => by rw [hr]; rfl
   have hdl : (0 : Int) < ((d :: ds).length : Int) := by simp
   have hRl := lt_of_heap h.hh
   have hgl := lt_of_cell hcc
   have hS : ∀ w', Below W.heap.size W w' → w'.cell? ⟨RB, 10, none⟩ = some (.slice (some ⟨g, 0, none⟩) (d :: ds).length cap) ∧ w'.cell? ⟨RB, 8, none⟩ = some (.int .i64 (s1 : Int)) ∧ w'.cell? ⟨g, 0, none⟩ = some (.slice ra d.length rc) := fun w' hb => ⟨by rw [(bcell hb).1 _ _ hRl, hx]; rfl, by rw [(bcell hb).1 _ _ hRl, hx]; rfl, cell_keep hcc (hb.block _ hgl)⟩
   have hbD : Below W.heap.size W W.drew := (Below.refl _ _).drew
   have H := Lib.hid (And.intro hll h); clear hll h hvs hvs2 h1 h2 hr hd
   go_enter Tryz.func107, Tryz.ntmps107
   go_wp2_with fail
   have hS0 := hS _ hbD
   refine wp_region_noPanic ?_
   refine wp_region_held_drew (S := fun w' => w'.cell? ⟨RB, 10, none⟩ = some (.slice (some ⟨g, 0, none⟩) (d :: ds).length cap) ∧ w'.cell? ⟨RB, 8, none⟩ = some (.int .i64 (s1 : Int)) ∧ w'.cell? ⟨g, 0, none⟩ = some (.slice ra d.length rc)) (by kernel_rfl) hS0 (fun hHeld => ?_)
   (refine wpAnyH_take (i := 0) (v := .pointer (some ⟨RB, 0, none⟩)) rfl (by kernel_rfl) (by kernel_rfl) (by kernel_rfl) (fun _ _ _ h => h) (Or.inl ⟨by kernel_rfl, fun w hSw => by (try dsimp only at hSw); go_split_ands; go_simp⟩) (by assumption) ?_; simp only [Act.put, List.setIfInBounds_toArray, List.set_cons_zero, List.set_cons_succ])
   (refine wpAnyH_take (i := 1) (v := .pointer (some ⟨RB, 0, none⟩)) rfl (by kernel_rfl) (by kernel_rfl) (by kernel_rfl) (fun _ _ _ h => h) (Or.inl ⟨by kernel_rfl, fun w hSw => by (try dsimp only at hSw); go_split_ands; go_simp⟩) (by assumption) ?_; simp only [Act.put, List.setIfInBounds_toArray, List.set_cons_zero, List.set_cons_succ])
   (refine wpAnyH_take (i := 2) (v := .pointer (some ⟨RB, 10, none⟩)) rfl (by kernel_rfl) (by kernel_rfl) (by kernel_rfl) (fun _ _ _ h => h) (Or.inl ⟨by kernel_rfl, fun w hSw => by (try dsimp only at hSw); go_split_ands; go_simp⟩) (by assumption) ?_; simp only [Act.put, List.setIfInBounds_toArray, List.set_cons_zero, List.set_cons_succ])
   (refine wpAnyH_take (i := 3) (v := .slice (some ⟨g, 0, none⟩) (d :: ds).length cap) rfl (by kernel_rfl) (by kernel_rfl) (by kernel_rfl) (fun _ _ _ h => h) (Or.inl ⟨by kernel_rfl, fun w hSw => by (try dsimp only at hSw); go_split_ands; go_simp⟩) (by assumption) ?_; simp only [Act.put, List.setIfInBounds_toArray, List.set_cons_zero, List.set_cons_succ])
   (refine wpAnyH_take (i := 4) (v := .pointer (some ⟨g, 0, none⟩)) rfl (by kernel_rfl) (by kernel_rfl) (by kernel_rfl) (fun _ _ _ h => h) (Or.inl ⟨by kernel_rfl, fun w hSw => by (try dsimp only at hSw); go_split_ands; go_simp⟩) (by assumption) ?_; simp only [Act.put, List.setIfInBounds_toArray, List.set_cons_zero, List.set_cons_succ])
   (refine wpAnyH_take (i := 5) (v := .slice ra d.length rc) rfl (by kernel_rfl) (by kernel_rfl) (by kernel_rfl) (fun _ _ _ h => h) (Or.inl ⟨by kernel_rfl, fun w hSw => by (try dsimp only at hSw); go_split_ands; go_simp⟩) (by assumption) ?_; simp only [Act.put, List.setIfInBounds_toArray, List.set_cons_zero, List.set_cons_succ])
   (refine wpAnyH_take (i := 7) (v := .pointer (some ⟨RB, 0, none⟩)) rfl (by kernel_rfl) (by kernel_rfl) (by kernel_rfl) (fun _ _ _ h => h) (Or.inl ⟨by kernel_rfl, fun w hSw => by (try dsimp only at hSw); go_split_ands; go_simp⟩) (by assumption) ?_; simp only [Act.put, List.setIfInBounds_toArray, List.set_cons_zero, List.set_cons_succ])
   (refine wpAnyH_take (i := 8) (v := .pointer (some ⟨RB, 0, none⟩)) rfl (by kernel_rfl) (by kernel_rfl) (by kernel_rfl) (fun _ _ _ h => h) (Or.inl ⟨by kernel_rfl, fun w hSw => by (try dsimp only at hSw); go_split_ands; go_simp⟩) (by assumption) ?_; simp only [Act.put, List.setIfInBounds_toArray, List.set_cons_zero, List.set_cons_succ])
   (refine wpAnyH_take (i := 9) (v := .pointer (some ⟨RB, 8, none⟩)) rfl (by kernel_rfl) (by kernel_rfl) (by kernel_rfl) (fun _ _ _ h => h) (Or.inl ⟨by kernel_rfl, fun w hSw => by (try dsimp only at hSw); go_split_ands; go_simp⟩) (by assumption) ?_; simp only [Act.put, List.setIfInBounds_toArray, List.set_cons_zero, List.set_cons_succ])
   (refine wpAnyH_take (i := 10) (v := .int .i64 (s1 : Int)) rfl (by kernel_rfl) (by kernel_rfl) (by kernel_rfl) (fun _ _ _ h => h) (Or.inl ⟨by kernel_rfl, fun w hSw => by (try dsimp only at hSw); go_split_ands; go_simp⟩) (by assumption) ?_; simp only [Act.put, List.setIfInBounds_toArray, List.set_cons_zero, List.set_cons_succ])
   refine wpAnyH_ready (rs := [6]) (by kernel_rfl) (by simp) (AllReadyH.cons rfl (fun K hK => ?_) AllReadyH.nil)
   go_simp
   go_at_call 106
   refine (H.out.1 _ hbD).mono ?_
   rintro e' w2 ⟨v2, rfl, ⟨hF, _⟩, hb2⟩
   have hb2' : Below W.heap.size W w2 := hbD.trans (hb2.mono (Nat.le_refl _))
   obtain ⟨va, vc, rfl, _⟩ := hF.v2.form
   have hS2 := hS _ hb2'
   have HF := Lib.hid (And.intro hF hb2'); clear hF hb2 hb2'
   dsimp only
   (refine hK.out _ _ hS2 (fun hHeld => ?_); clear hK K; (try simp only [Act.put, List.setIfInBounds_toArray, List.set_cons_zero, List.set_cons_succ]))
   (refine wpAnyH_ready (rs := [11]) (by kernel_rfl) (by simp) (AllReadyH.cons rfl (fun K hK => ?_) AllReadyH.nil); go_simp)
   (refine hK.out _ _ hS2 (fun hHeld => ?_); clear hK K; (try simp only [Act.put, List.setIfInBounds_toArray, List.set_cons_zero, List.set_cons_succ]))
   (refine wpAnyH_ready (rs := [12]) (by kernel_rfl) (by simp) (AllReadyH.cons rfl (fun K hK => ?_) AllReadyH.nil); go_simp)
   (refine hK.out _ _ hS2 (fun hHeld => ?_); clear hK K; (try simp only [Act.put, List.setIfInBounds_toArray, List.set_cons_zero, List.set_cons_succ]))
   (refine wpAnyH_ready (rs := [13]) (by kernel_rfl) (by simp) (AllReadyH.cons rfl (fun K hK => ?_) AllReadyH.nil); go_simp)
   (refine hK.out _ _ hS2 (fun hHeld => ?_); clear hK K; (try simp only [Act.put, List.setIfInBounds_toArray, List.set_cons_zero, List.set_cons_succ]))
   refine wpAnyH_done (by kernel_rfl) (NoPanic.normal ?_) _
   go_wp2_with fail
   go_ret3
   exact ⟨_, rfl, HF.out.1, HF.out.2⟩
theorem partC_nil {m : Mk} {t : List (List Int)} : partC m t [] = if isSys m t = false then 1 else 0 := by
 unfold partC
 have h1 : allKeys m [] = true := allKeys_iff.2 fun k hk => by simp at hk
 rw [h1]
 simp
theorem searchC_nil {m : Mk} {t : List (List Int)} {limit : Int} : searchC m t [] limit = if isSys m t = false then 1 else if inB limit 0 4000 = false then 2 else 0 := by
 have hf : (falseL m.c.toNat t []).length = 0 := rfl
 unfold searchC
 rw [partC_nil]
 cases hs : isSys m t
 ·simp
 ·cases hi : inB limit 0 4000
  ·have h1 : ¬ (0 ≤ limit ∧ limit ≤ 4000) := fun h => by rw [inB_iff.2 h] at hi; cases hi
   simp [h1]
  ·have h1 := inB_iff.1 hi
   simp [h1, hf]
set_option maxRecDepth 100000 in
theorem l17Code_any {S : Nat → Prop} (m : Mk) (u : Value) (t : List (List Int)) (limit : Int) (W : World) (h : V2 S W u t) :
  Calls Tryz.prog 161 #[.agg #[.int .i64 m.c, .int .i64 m.d, .int .i64 m.s, .int .i64 m.e, .int .i64 m.l, u], .int .i64 limit] W fun e' w' => e' = .returned (.int .i64 (searchC m t [] limit)) ∧ Below W.heap.size W w' := by
 obtain ⟨a, c, rfl, hmx⟩ := h.form
 obtain ⟨W1, hW1, hB01, hz01, HZ01, hc01, hh01⟩ := box_facts W #[.int .i64 m.c, .int .i64 m.d, .int .i64 m.s, .int .i64 m.e, .int .i64 m.l, .slice a t.length c] 28
 have hV1 : V2 (fun _ => True) W1 (.slice a t.length c) t := (h.below hB01).any
 rw [searchC_nil]
 cases hs : isSys m t
 ·have Hs := Lib.hid hs; clear hs
  go_enter Tryz.func161, Tryz.ntmps161
  go_wp2_with fail
  rw [← hW1]
  refine (isSystemR_b m _ t _ _ Hs.out hV1).mono ?_
  rintro e' w2 ⟨rfl, hb2⟩
  clear hc01 hh01
  go_wp2_with fail
  go_ret
  exact ⟨rfl, hB01.trans (hb2.mono (by omega))⟩
 ·have Hs := Lib.hid hs; clear hs
  cases hi : inB limit 0 4000
  ·have Hi := Lib.hid hi; clear hi
   go_enter Tryz.func161, Tryz.ntmps161
   go_wp2_with fail
   rw [← hW1]
   refine (isSystemR_b m _ t _ _ Hs.out hV1).mono ?_
   rintro e' w2 ⟨rfl, hb2⟩
   clear hc01 hh01
   go_wp2_with (go_at_call 103; refine (l01In_b _ _ _ _ _ Hi.out).mono ?_; rintro e' w' ⟨rfl, rfl⟩)
   go_ret
   exact ⟨rfl, hB01.trans (hb2.mono (by omega))⟩
  ·have Hi := Lib.hid hi; clear hi
   go_enter Tryz.func161, Tryz.ntmps161
   go_wp2_with fail
   rw [← hW1]
   refine (isSystemR_b m _ t _ _ Hs.out hV1).mono ?_
   rintro e' w2 ⟨rfl, hb2⟩
   clear hc01 hh01
   go_wp2_with (go_at_call 103; refine (l01In_b _ _ _ _ _ Hi.out).mono ?_; rintro e' w' ⟨rfl, rfl⟩)
   go_ret
   exact ⟨rfl, hB01.trans (hb2.mono (by omega))⟩
set_option maxRecDepth 100000 in
set_option maxHeartbeats 1000000 in
theorem FindDesignR_any {S : Nat → Prop} (m : Mk) (u : Value) (t : List (List Int)) (limit : Int) (W : World) (h : V2 S W u t) :
  Calls Tryz.prog 64 #[.agg #[.int .i64 m.c, .int .i64 m.d, .int .i64 m.s, .int .i64 m.e, .int .i64 m.l, u], .int .i64 limit] W fun e' w' => ∃ v', e' = .returned (.tuple #[v', .int .i64 (findAns m t [] limit).2.1, .int .i64 (findAns m t [] limit).2.2]) ∧ F2 W.heap.size w' v' (findAns m t [] limit).1 ∧ Below W.heap.size W w' := by
 obtain ⟨a, c, rfl, hmx⟩ := h.form
 obtain ⟨W1, hW1, hB01, hz01, HZ01, hc01, hh01⟩ := box_facts W #[.int .i64 m.c, .int .i64 m.d, .int .i64 m.s, .int .i64 m.e, .int .i64 m.l, .slice a t.length c] 28
 have hV1 : V2 (fun _ => True) W1 (.slice a t.length c) t := (h.below hB01).any
 have hsc := l17Code_any m _ t limit W1 hV1
 by_cases hp : searchC m t [] limit = 0
 ·obtain ⟨hok, hlim, hop⟩ := searchC_ok.1 hp
  rw [hp] at hsc
  obtain ⟨L, rfl⟩ : ∃ L : Nat, limit = (L : Int) := ⟨limit.toNat, by omega⟩
  have hfin : findAns m t [] (L : Int) = pickA (firstF m.c.toNat t (keysOf m) [] 1 L) := by
   unfold findAns; rw [if_neg (by rw [hp]; simp)]; rfl
  have hdes := firstF_des (n := m.c.toNat) (most := 1) (limit := L) hok
  have hfd := fun w (hb : Below W1.heap.size W1 w) => l17Run_any m (.slice a t.length c) (.slice none 0 0) t [] 1 L w (hV1.below hb) (S' := fun _ => True) ⟨none, 0, rfl, Nat.le_refl _, Nat.zero_le _, fun k hk => by simp at hk⟩ (fun _ => .inl rfl) hok (by omega) (by omega)
  obtain ⟨q, hq⟩ : ∃ q, firstF m.c.toNat t (keysOf m) [] 1 L = q := ⟨_, rfl⟩
  rw [hfin, hq]
  rw [hq] at hdes
  simp only [hq] at hfd
  have hfs := fun (RB B : Nat) (fv : Value) (w : World) (h : Sg m (.slice a t.length c) L 1 RB B q fv w) => l17First_any m (.slice a t.length c) t L 1 RB B q fv w h hdes
  obtain ⟨pk, hpk⟩ : ∃ p, pickA q = p := ⟨_, rfl⟩
  rw [hpk]
  simp only [hpk] at hfs
  have H := Lib.hid (And.intro hsc (And.intro hfd (And.intro hfs (And.intro hq hpk)))); clear hsc hfd hfs hfin hp hok hlim hop hdes hq hpk
  go_enter Tryz.func64, Tryz.ntmps64
  go_wp2_with fail
  rw [← hW1]
  refine H.out.1.mono ?_
  rintro e' w2 ⟨rfl, hb2⟩
  have hz2 := hb2.size
  have hx2 : ∀ o, w2.cell? ⟨W.heap.size, o, none⟩ = (#[.int .i64 m.c, .int .i64 m.d, .int .i64 m.s, .int .i64 m.e, .int .i64 m.l, .slice a t.length c] : Array Value)[o]? := fun o => by rw [(bcell hb2).1 _ _ hz01, hc01]
  clear hc01 hh01
  go_wp2_with fail
  refine (H.out.2.1 _ hb2).mono ?_
  rintro e' w3 ⟨RB, fv, rfl, hG, hb3⟩
  have hz3 := hb3.size
  have HG := Lib.hid (And.intro hG hb3); clear hG hb3 hx2
  go_wp2_with fail
  refine (H.out.2.2.1 _ _ _ _ HG.out.1).mono ?_
  rintro e' w4 ⟨v4, rfl, hF, hb4⟩
  have HF := Lib.hid (And.intro (hF.mono (show W.heap.size ≤ w3.heap.size by omega)) (hB01.trans ((hb2.trans ((HG.out.2.trans (hb4.mono hz3)).mono hz2)).mono (by omega)))); clear hF hb4
  go_wp2_with fail
  go_ret3
  exact ⟨_, rfl, HF.out.1, HF.out.2⟩
 ·have hfin : findAns m t [] limit = ([], 0, searchC m t [] limit) := by unfold findAns; rw [if_pos hp]
  have e1 : (searchC m t [] limit != 0) = true := by simp [hp]
  have e2 : (searchC m t [] limit == 0) = false := by simp [hp]
  rw [hfin]
  have H := Lib.hid (And.intro hsc hfin); clear hsc hfin hp
  generalize searchC m t [] limit = pc at *
  go_enter Tryz.func64, Tryz.ntmps64
  go_wp2_with fail
  rw [← hW1]
  refine H.out.1.mono ?_
  rintro e' w2 ⟨rfl, hb2⟩
  have hz2 := hb2.size
  have hx2 : ∀ o, w2.cell? ⟨W.heap.size, o, none⟩ = (#[.int .i64 m.c, .int .i64 m.d, .int .i64 m.s, .int .i64 m.e, .int .i64 m.l, .slice a t.length c] : Array Value)[o]? := fun o => by rw [(bcell hb2).1 _ _ hz01, hc01]
  clear hc01 hh01
  clear hx2
  go_wp2_with fail
  go_ret3
  exact ⟨_, rfl, F2.nil5, hB01.trans (hb2.mono (by omega))⟩
theorem own_PV {w : World} {B : Nat} {e : TypeId} {v : Value} {n : Nat} {xs : List Value} (h : w.ownsRow B e 1 v n xs) : PV v := by
 rcases h.2 with ⟨rfl, _⟩ | ⟨g, cap, cur, rfl, _⟩
 ·exact .inl rfl
 ·exact .inr ⟨_, _, _, _, rfl⟩
set_option maxRecDepth 100000 in
set_option maxHeartbeats 4000000 in
theorem l17DrawLimit_any (B0 SB : Nat) (W : World) (h : Src B0 SB W) :
  Calls Tryz.prog 165 #[.pointer (some ⟨SB, 0, none⟩)] W fun e w' => ∃ x : Int, e = .returned (.int .i64 x) ∧ Src B0 SB w' ∧ Only SB W w' := by
 have hSl := h.lt
 have HL := Lib.hid h; clear h
 go_enter Tryz.func165, Tryz.ntmps165
 go_wp2_with fail
 refine (l01Next_any B0 SB 16 _ HL.out).mono ?_
 rintro e' w2 ⟨x, rfl, ⟨hx0, hx1⟩, hs2, ho2⟩
 have hz2 := ho2.size
 have H2 := Lib.hid (And.intro hs2 ho2); clear hs2 ho2
 by_cases hx : x = 0
 ·subst hx
  clear hx0 hx1
  obtain ⟨wa, hwa⟩ : ∃ wa, wa = w2.alloc (.cells #[.int .i64 (-1), .int .i64 0, .int .i64 4001] 2) := ⟨_, rfl⟩
  have hbi : Below w2.heap.size w2 wa := by rw [hwa]; exact (Below.refl w2.heap.size w2).alloc (Nat.le_refl _) _
  have hL : V1 (fun b => b = w2.heap.size) wa (.slice (some ⟨w2.heap.size, 0, none⟩) 3 3) [-1, 0, 4001] := by rw [hwa]; exact lit_V1 w2 2 [-1, 0, 4001] (by simp)
  have HA := Lib.hid (And.intro (H2.out.1.below hbi) (And.intro (H2.out.2.then_below hbi) (And.intro hL hwa))); clear hbi hwa hL
  go_wp2_with fail
  rw [← HA.out.2.2.2]
  refine (l01Pick_any B0 SB _ [-1, 0, 4001] wa HA.out.1 HA.out.2.2.1 (fun b hb => by omega) (by simp)).mono ?_
  rintro e' wb ⟨y, rfl, _, hsb, hob⟩
  have HB := Lib.hid (And.intro hsb (HA.out.2.1.trans hob)); clear hsb hob
  go_wp2_with fail
  go_ret
  exact ⟨_, rfl, HB.out.1, HB.out.2⟩
 ·have hxd : (x == 0) = false := by simp [hx]
  clear hx hx0 hx1
  go_wp2_with fail
  refine (l01Next_any B0 SB 40 _ H2.out.1).mono ?_
  rintro e' w3 ⟨z, rfl, ⟨hz0, hz1⟩, hs3, ho3⟩
  have hz3 := ho3.size
  have hw1 : wrap64 (1 + z) = 1 + z := IntWalk.wrap64_in _ (by omega)
  have H3 := Lib.hid (And.intro hs3 (H2.out.2.trans ho3)); clear hs3 ho3
  obtain ⟨wa, hwa⟩ : ∃ wa, wa = w3.alloc (.cells #[.int .i64 (1 + z), .int .i64 200, .int .i64 600, .int .i64 1500] 2) := ⟨_, rfl⟩
  have hbi : Below w3.heap.size w3 wa := by rw [hwa]; exact (Below.refl w3.heap.size w3).alloc (Nat.le_refl _) _
  have hL : V1 (fun b => b = w3.heap.size) wa (.slice (some ⟨w3.heap.size, 0, none⟩) 4 4) [1 + z, 200, 600, 1500] := by rw [hwa]; exact lit_V1 w3 2 [1 + z, 200, 600, 1500] (by simp)
  have HA := Lib.hid (And.intro (H3.out.1.below hbi) (And.intro (H3.out.2.then_below hbi) (And.intro hL hwa))); clear hbi hwa hL
  go_wp2_with fail
  rw [← HA.out.2.2.2]
  refine (l01Pick_any B0 SB _ [1 + z, 200, 600, 1500] wa HA.out.1 HA.out.2.2.1 (fun b hb => by omega) (by simp)).mono ?_
  rintro e' wb ⟨y, rfl, _, hsb, hob⟩
  have HB := Lib.hid (And.intro hsb (HA.out.2.1.trans hob)); clear hsb hob
  go_wp2_with fail
  go_ret
  exact ⟨_, rfl, HB.out.1, HB.out.2⟩
/-- A system in a box of its own, while more is drawn. -/
structure DrAt (B0 SB : Nat) (W W1 w3 : World) (m : Mk) (tv : Value) (T : List (List Int)) (w : World) : Prop where
 src : Src B0 SB w
 only : Only SB W w
 hm : w.heap[w3.heap.size]? = some (.cells #[.int .i64 m.c, .int .i64 m.d, .int .i64 m.s, .int .i64 m.e, .int .i64 m.l, tv] 28 (0, 0))
 hr : w.heap[W.heap.size]? = some (.cells #[.int .i64 0, .int .i64 0, .int .i64 0, .int .i64 0, .int .i64 0, .slice none 0 0] 28 (0, 0))
 tab : V2 (fun b => W1.heap.size ≤ b ∧ b < w3.heap.size) w tv T
theorem DrAt.step {B0 SB : Nat} {W W1 w3 w w' : World} {m : Mk} {tv : Value} {T : List (List Int)} (h : DrAt B0 SB W W1 w3 m tv T w) (hs : Src B0 SB w') (ho : Only SB w w') (h1 : SB < W.heap.size) (h2 : SB < W1.heap.size) (h3 : SB < w3.heap.size) : DrAt B0 SB W W1 w3 m tv T w' :=
 ⟨hs, h.only.trans ho, ho.heap h.hm (fun e => by omega), ho.heap h.hr (fun e => by omega), h.tab.mono (fun _ h _ => h) (fun b hb hlt => ho.block b hlt (fun e => by have := hb.1; omega))⟩
/-- What a draw of a system and cuts answers, where no cuts are a slice from the beginning of a block. -/
def DrawDP (B0 SB : Nat) (W : World) (e : Ending) (w' : World) : Prop :=
 ∃ (m : Mk) (u cv : Value) (T cuts : List (List Int)), e = .returned (.tuple #[.agg #[.int .i64 m.c, .int .i64 m.d, .int .i64 m.s, .int .i64 m.e, .int .i64 m.l, u], cv]) ∧ SmallM m ∧ V2 (fun b => W.heap.size ≤ b) w' u T ∧ V2 (fun b => W.heap.size ≤ b) w' cv cuts ∧ (cuts = [] → PV cv) ∧ Src B0 SB w' ∧ Only SB W w'
set_option maxRecDepth 100000 in
set_option maxHeartbeats 4000000 in
theorem l16Draw_any (B0 SB : Nat) (W : World) (h : Src B0 SB W) :
  Calls Tryz.prog 97 #[.pointer (some ⟨SB, 0, none⟩)] W (DrawDP B0 SB W) := by
 have hSl := h.lt
 have hB0 : B0 ≤ SB := h.1
 obtain ⟨W1, hW1, hB01, hz01, HZ01, _, hh01⟩ := box_facts W #[.int .i64 0, .int .i64 0, .int .i64 0, .int .i64 0, .int .i64 0, .slice none 0 0] 28
 have hz1e := HZ01.out
 have hz1l : W1.heap.size ≤ W.heap.size + 1 := by omega
 have hs1' := h.below hB01
 have HL := Lib.hid (And.intro hs1' (And.intro hB01 (And.intro hh01 hW1))); clear hs1' h hh01 hB01 hz1e
 go_enter Tryz.func97, Tryz.ntmps97
 go_wp2_with fail
 rw [← HL.out.2.2.2]
 clear hW1
 refine (l15Draw_any B0 SB _ HL.out.1).mono ?_
 rintro e' w3 ⟨m, u, cv, T, cuts, rfl, hsm, hu, hT12, hcv, hcl, hs3, ho3⟩
 have hz3 := ho3.size
 obtain ⟨ta, tc, rfl, _⟩ := hu.form
 obtain ⟨ca, cc, rfl, _⟩ := hcv.form
 obtain ⟨w4, hw4⟩ : ∃ w4, w4 = w3.alloc (.cells #[.int .i64 m.c, .int .i64 m.d, .int .i64 m.s, .int .i64 m.e, .int .i64 m.l, .slice ta T.length tc] 28) := ⟨_, rfl⟩
 have hb34 : Below w3.heap.size w3 w4 := by rw [hw4]; exact (Below.refl _ _).alloc (Nat.le_refl _) _
 have hM4 : w4.heap[w3.heap.size]? = some (.cells #[.int .i64 m.c, .int .i64 m.d, .int .i64 m.s, .int .i64 m.e, .int .i64 m.l, .slice ta T.length tc] 28 (0, 0)) := by rw [hw4]; exact heap_alloc_self _ _
 have hc4 : ∀ o, w4.cell? ⟨w3.heap.size, o, none⟩ = (#[.int .i64 m.c, .int .i64 m.d, .int .i64 m.s, .int .i64 m.e, .int .i64 m.l, .slice ta T.length tc] : Array Value)[o]? := fun o => by rw [cell_of_block hM4]
 have hz4 : w3.heap.size < w4.heap.size := lt_of_heap hM4
 have HM := Lib.hid hsm; clear hsm
 have HD4 := Lib.hid (DrAt.mk (B0 := B0) (SB := SB) (W := W) (W1 := W1) (w3 := w3) (hs3.below hb34) (((Only.of_below HL.out.2.1).trans ho3).then_below hb34) hM4 ((hb34.block _ (by omega)).trans (ho3.heap HL.out.2.2.1 (fun e => by omega))) ((hu.mono (S' := fun b => W1.heap.size ≤ b ∧ b < w3.heap.size) (fun b hb hlt => ⟨hb, hlt⟩) (fun _ _ _ => rfl)).below hb34))
 have HC4 := Lib.hid (And.intro ((hcv.mono (S' := fun b => W1.heap.size ≤ b) (fun b hb _ => hb) (fun _ _ _ => rfl)).below hb34) hw4)
 clear hs3 ho3 hb34 hM4 hu hcv hw4
 have HCL := Lib.hid hcl.1; clear hcl
 go_wp2_with fail
 rw [← HC4.out.2]
 obtain ⟨r, hr⟩ : ∃ r, isSys m T = r := ⟨_, rfl⟩
 have Hr := Lib.hid hr; clear hr
 refine (isSystemR_b m _ T w4 r Hr.out HD4.out.tab).mono ?_
 rintro e' w5 ⟨rfl, hb5⟩
 have hz5 := hb5.size
 have HD5 := Lib.hid (HD4.out.step (HD4.out.src.below (hb5.mono (Nat.le_refl _))) (Only.of_below hb5) (by omega) (by omega) (by omega))
 have HC5 := Lib.hid (HC4.out.1.below hb5)
 clear hb5 hc4
 cases r
 ·skip
  have hcM : ∀ o, w5.cell? ⟨w3.heap.size, o, none⟩ = (#[.int .i64 m.c, .int .i64 m.d, .int .i64 m.s, .int .i64 m.e, .int .i64 m.l, .slice ta T.length tc] : Array Value)[o]? := fun o => by rw [cell_of_block HD5.out.hm]
  have hcRz : ∀ o, w5.cell? ⟨W.heap.size, o, none⟩ = (#[.int .i64 0, .int .i64 0, .int .i64 0, .int .i64 0, .int .i64 0, .slice none 0 0] : Array Value)[o]? := fun o => by rw [cell_of_block HD5.out.hr]
  have hfRz := fun o => frozen_of_block HD5.out.hr o
  have hdone := putS_facts HD5.out.src HD5.out.only HD5.out.hr (by omega) (Nat.le_refl _) (by omega) (.int .i64 m.c) (.int .i64 m.d) (.int .i64 m.s) (.int .i64 m.e) (.int .i64 m.l) (.slice ta T.length tc)
  obtain ⟨wz, hwz⟩ : ∃ wz, wz = putS w5 W.heap.size (.int .i64 m.c) (.int .i64 m.d) (.int .i64 m.s) (.int .i64 m.e) (.int .i64 m.l) (.slice ta T.length tc) := ⟨_, rfl⟩
  rw [← hwz] at hdone
  obtain ⟨hd1, hd2, hd3, hd4⟩ := hdone
  have hFz : V2 (fun b => W.heap.size ≤ b) wz (.slice ta T.length tc) T := V2.mono (S := fun b => W1.heap.size ≤ b ∧ b < w3.heap.size) HD5.out.tab (fun b hb _ => by have hb := hb.1; omega) (fun b hb _ => hd4 b (by have hb := hb.1; omega))
  have hcz : V2 (fun b => W.heap.size ≤ b) wz (.slice ca cuts.length cc) cuts := V2.mono (S := fun b => W1.heap.size ≤ b) HC5.out (fun b hb _ => by have hb : W1.heap.size ≤ b := hb; omega) (fun b hb _ => hd4 b (by have hb : W1.heap.size ≤ b := hb; omega))
  have hz0 : wz.cell? ⟨W.heap.size, 0, none⟩ = some (.int .i64 m.c) := by rw [cell_of_block hd3]; rfl
  have hz1 : wz.cell? ⟨W.heap.size, 1, none⟩ = some (.int .i64 m.d) := by rw [cell_of_block hd3]; rfl
  have hz2 : wz.cell? ⟨W.heap.size, 2, none⟩ = some (.int .i64 m.s) := by rw [cell_of_block hd3]; rfl
  have hz3 : wz.cell? ⟨W.heap.size, 3, none⟩ = some (.int .i64 m.e) := by rw [cell_of_block hd3]; rfl
  have hz4 : wz.cell? ⟨W.heap.size, 4, none⟩ = some (.int .i64 m.l) := by rw [cell_of_block hd3]; rfl
  have hz5 : wz.cell? ⟨W.heap.size, 5, none⟩ = some (.slice ta T.length tc) := by rw [cell_of_block hd3]; rfl
  have HZ := Lib.hid (And.intro hd1 (And.intro hd2 (And.intro hFz (And.intro hcz (And.intro hwz (And.intro hz0 (And.intro hz1 (And.intro hz2 (And.intro hz3 (And.intro hz4 hz5)))))))))); clear hd1 hd2 hd3 hd4 hFz hcz hwz hz0 hz1 hz2 hz3 hz4 hz5
  go_wp2_with fail
  have hwz := HZ.out.2.2.2.2.1
  unfold putS putR at hwz
  rw [← hwz]
  clear hwz
  obtain ⟨hd1, hd2, hFz, hcz, hwzz, hz0, hz1, hz2, hz3, hz4, hz5⟩ := HZ.out
  clear hwzz
  exact bodyPost_ret (v := .tuple #[.agg #[.int .i64 m.c, .int .i64 m.d, .int .i64 m.s, .int .i64 m.e, .int .i64 m.l, .slice ta T.length tc], (.slice ca cuts.length cc)]) (by simp [results, Tryz.results97, go_sem, hz0, hz1, hz2, hz3, hz4, hz5]) rfl ⟨m, _, _, T, cuts, rfl, HM.out, hFz, hcz, (fun e => absurd (e ▸ HCL.out : 1 ≤ ([] : List (List Int)).length) (by decide)), hd1, hd2⟩
 ·go_wp2_with fail
  refine (l01Next_any B0 SB 4 _ HD5.out.src).mono ?_
  rintro e' w6 ⟨q, rfl, ⟨hq0, hq1⟩, hs6, ho6⟩
  have hz6 := ho6.size
  have HC6 := Lib.hid (HC5.out.mono (S' := fun b => W1.heap.size ≤ b) (fun b hb _ => hb) (fun b hb hlt => ho6.block b hlt (fun e => by have hb : W1.heap.size ≤ b := hb; omega)))
  have HD6 := Lib.hid (HD5.out.step hs6 ho6 (by omega) (by omega) (by omega)); clear hs6 ho6
  by_cases hq : q = 0
  ·subst hq
   clear hq0 hq1
   have hcM : ∀ o, w6.cell? ⟨w3.heap.size, o, none⟩ = (#[.int .i64 m.c, .int .i64 m.d, .int .i64 m.s, .int .i64 m.e, .int .i64 m.l, .slice ta T.length tc] : Array Value)[o]? := fun o => by rw [cell_of_block HD6.out.hm]
   have hcRz : ∀ o, w6.cell? ⟨W.heap.size, o, none⟩ = (#[.int .i64 0, .int .i64 0, .int .i64 0, .int .i64 0, .int .i64 0, .slice none 0 0] : Array Value)[o]? := fun o => by rw [cell_of_block HD6.out.hr]
   have hfRz := fun o => frozen_of_block HD6.out.hr o
   have hdone := putS_facts HD6.out.src HD6.out.only HD6.out.hr (by omega) (Nat.le_refl _) (by omega) (.int .i64 m.c) (.int .i64 m.d) (.int .i64 m.s) (.int .i64 m.e) (.int .i64 m.l) (.slice ta T.length tc)
   obtain ⟨wz, hwz⟩ : ∃ wz, wz = putS w6 W.heap.size (.int .i64 m.c) (.int .i64 m.d) (.int .i64 m.s) (.int .i64 m.e) (.int .i64 m.l) (.slice ta T.length tc) := ⟨_, rfl⟩
   rw [← hwz] at hdone
   obtain ⟨hd1, hd2, hd3, hd4⟩ := hdone
   have hFz : V2 (fun b => W.heap.size ≤ b) wz (.slice ta T.length tc) T := V2.mono (S := fun b => W1.heap.size ≤ b ∧ b < w3.heap.size) HD6.out.tab (fun b hb _ => by have hb := hb.1; omega) (fun b hb _ => hd4 b (by have hb := hb.1; omega))
   have hcz : V2 (fun b => W.heap.size ≤ b) wz (.slice ca cuts.length cc) cuts := V2.mono (S := fun b => W1.heap.size ≤ b) HC6.out (fun b hb _ => by have hb : W1.heap.size ≤ b := hb; omega) (fun b hb _ => hd4 b (by have hb : W1.heap.size ≤ b := hb; omega))
   have hz0 : wz.cell? ⟨W.heap.size, 0, none⟩ = some (.int .i64 m.c) := by rw [cell_of_block hd3]; rfl
   have hz1 : wz.cell? ⟨W.heap.size, 1, none⟩ = some (.int .i64 m.d) := by rw [cell_of_block hd3]; rfl
   have hz2 : wz.cell? ⟨W.heap.size, 2, none⟩ = some (.int .i64 m.s) := by rw [cell_of_block hd3]; rfl
   have hz3 : wz.cell? ⟨W.heap.size, 3, none⟩ = some (.int .i64 m.e) := by rw [cell_of_block hd3]; rfl
   have hz4 : wz.cell? ⟨W.heap.size, 4, none⟩ = some (.int .i64 m.l) := by rw [cell_of_block hd3]; rfl
   have hz5 : wz.cell? ⟨W.heap.size, 5, none⟩ = some (.slice ta T.length tc) := by rw [cell_of_block hd3]; rfl
   have HZ := Lib.hid (And.intro hd1 (And.intro hd2 (And.intro hFz (And.intro hcz (And.intro hwz (And.intro hz0 (And.intro hz1 (And.intro hz2 (And.intro hz3 (And.intro hz4 hz5)))))))))); clear hd1 hd2 hd3 hd4 hFz hcz hwz hz0 hz1 hz2 hz3 hz4 hz5
   go_wp2_with fail
   have hwz := HZ.out.2.2.2.2.1
   unfold putS putR at hwz
   rw [← hwz]
   clear hwz
   obtain ⟨hd1, hd2, hFz, hcz, hwzz, hz0, hz1, hz2, hz3, hz4, hz5⟩ := HZ.out
   clear hwzz
   exact bodyPost_ret (v := .tuple #[.agg #[.int .i64 m.c, .int .i64 m.d, .int .i64 m.s, .int .i64 m.e, .int .i64 m.l, .slice ta T.length tc], (.slice ca cuts.length cc)]) (by simp [results, Tryz.results97, go_sem, hz0, hz1, hz2, hz3, hz4, hz5]) rfl ⟨m, _, _, T, cuts, rfl, HM.out, hFz, hcz, (fun e => absurd (e ▸ HCL.out : 1 ≤ ([] : List (List Int)).length) (by decide)), hd1, hd2⟩
  ·have hqd : (q == 0) = false := by simp [hq]
   clear hq hq0 hq1
   have hfit0 := (PartOk.nil Hr.out).fits
   have HF0 := Lib.hid hfit0; clear hfit0
   obtain ⟨w7, hw7⟩ : ∃ w7, w7 = w6.alloc (.cells #[] 35) := ⟨_, rfl⟩
   have hb67 : Below w6.heap.size w6 w7 := by rw [hw7]; exact (Below.refl _ _).alloc (Nat.le_refl _) _
   have hO7 : OV w6.heap.size w7 (.slice (some ⟨w6.heap.size, 0, none⟩) 0 0) [] := OV.nil (by rw [hw7]; exact own_lit0 w6 w6.heap.size 35 1 (Nat.le_refl _))
   have hz7 := hb67.size
   have HO7 := Lib.hid (And.intro hO7 (And.intro (Only.of_below (SB := SB) hb67) hw7))
   have HD7 := Lib.hid (HD6.out.step (HD6.out.src.below hb67) (Only.of_below hb67) (by omega) (by omega) (by omega)); clear hw7 hb67 hO7
   have hw9 : wrap64 ((T.length : Int) + 1) = (T.length : Int) + 1 := IntWalk.wrap64_in _ (by omega)
   have hcM7 : ∀ o, w7.cell? ⟨w3.heap.size, o, none⟩ = (#[.int .i64 m.c, .int .i64 m.d, .int .i64 m.s, .int .i64 m.e, .int .i64 m.l, .slice ta T.length tc] : Array Value)[o]? := fun o => by rw [cell_of_block HD7.out.hm]
   have hcM70 : ∀ o, (w6.alloc (.cells #[] 35)).cell? ⟨w3.heap.size, o, none⟩ = (#[.int .i64 m.c, .int .i64 m.d, .int .i64 m.s, .int .i64 m.e, .int .i64 m.l, .slice ta T.length tc] : Array Value)[o]? := fun o => by rw [← HO7.out.2.2]; exact hcM7 o
   have hcM6 : ∀ o, w6.cell? ⟨w3.heap.size, o, none⟩ = (#[.int .i64 m.c, .int .i64 m.d, .int .i64 m.s, .int .i64 m.e, .int .i64 m.l, .slice ta T.length tc] : Array Value)[o]? := fun o => by rw [cell_of_block HD6.out.hm]
   go_wp2_with fail
   rw [← HO7.out.2.2]
   clear hw9
   refine (l01Next_any B0 SB ((T.length : Int) + 1) _ HD7.out.src).mono ?_
   rintro e' w8 ⟨n8, rfl, ⟨hn0, hn1⟩, hs8, ho8⟩
   obtain ⟨nn, rfl⟩ : ∃ q : Nat, n8 = (q : Int) := ⟨n8.toNat, by omega⟩
   have hnn : nn ≤ T.length := by
    rcases hn1 with h | h
    ·exact Int.ofNat_le.1 (Int.lt_add_one_iff.1 h)
    ·have h0 : nn = 0 := Int.ofNat_eq_zero.1 h
     rw [h0]; exact Nat.zero_le _
   have hz8 := ho8.size
   have HO8 := Lib.hid (And.intro (HO7.out.1.only ho8 (by omega)) (HO7.out.2.1.trans ho8))
   have HD8 := Lib.hid (HD7.out.step hs8 ho8 (by omega) (by omega) (by omega)); clear hs8 ho8 hn0 hn1 hcM7 hcM70 hcM6
   go_wp2_with fail
   go_loopw [6, 7, 8] (fun pv nv _ wr => ∃ (n : Nat) (part : List (List Int)), n + part.length ≤ T.length ∧ nv = .int .i64 (n : Int) ∧ OV w6.heap.size wr pv part ∧ Fits m T part ∧ Src B0 SB wr ∧ Only SB w6 wr) (fun _ nv _ _ => (intOf nv).toNat)
   case atStart => exact ⟨nn, [], by simpa using hnn, rfl, HO8.out.1, HF0.out, HD8.out.src, HO8.out.2⟩
   case round =>
    obtain ⟨n, part, hnp, rfl, hO, hfit, hsr, hor⟩ := hrel
    have hzr := hor.size
    obtain ⟨oa, oc, rfl, _, _⟩ := hO.form
    obtain ⟨wo, rfl⟩ : ∃ x, x = wr := ⟨_, rfl⟩
    have HDo := Lib.hid (HD6.out.step hsr hor (by omega) (by omega) (by omega))
    by_cases hn : n = 0
    ·subst hn
     have HPo := Lib.hid (show PV (.slice oa part.length oc) by obtain ⟨vs, h1, _⟩ := hO; exact own_PV h1)
     have HCo := Lib.hid (hO.v2.mono (S' := fun b => W1.heap.size ≤ b) (fun b hb _ => by have hb : w6.heap.size ≤ b := hb; omega) (fun _ _ _ => rfl)); clear hO hfit hsr hor hnp
     have hcM : ∀ o, wo.cell? ⟨w3.heap.size, o, none⟩ = (#[.int .i64 m.c, .int .i64 m.d, .int .i64 m.s, .int .i64 m.e, .int .i64 m.l, .slice ta T.length tc] : Array Value)[o]? := fun o => by rw [cell_of_block HDo.out.hm]
     have hcRz : ∀ o, wo.cell? ⟨W.heap.size, o, none⟩ = (#[.int .i64 0, .int .i64 0, .int .i64 0, .int .i64 0, .int .i64 0, .slice none 0 0] : Array Value)[o]? := fun o => by rw [cell_of_block HDo.out.hr]
     have hfRz := fun o => frozen_of_block HDo.out.hr o
     have hdone := putS_facts HDo.out.src HDo.out.only HDo.out.hr (by omega) (Nat.le_refl _) (by omega) (.int .i64 m.c) (.int .i64 m.d) (.int .i64 m.s) (.int .i64 m.e) (.int .i64 m.l) (.slice ta T.length tc)
     obtain ⟨wz, hwz⟩ : ∃ wz, wz = putS wo W.heap.size (.int .i64 m.c) (.int .i64 m.d) (.int .i64 m.s) (.int .i64 m.e) (.int .i64 m.l) (.slice ta T.length tc) := ⟨_, rfl⟩
     rw [← hwz] at hdone
     obtain ⟨hd1, hd2, hd3, hd4⟩ := hdone
     have hFz : V2 (fun b => W.heap.size ≤ b) wz (.slice ta T.length tc) T := V2.mono (S := fun b => W1.heap.size ≤ b ∧ b < w3.heap.size) HDo.out.tab (fun b hb _ => by have hb := hb.1; omega) (fun b hb _ => hd4 b (by have hb := hb.1; omega))
     have hcz : V2 (fun b => W.heap.size ≤ b) wz (.slice oa part.length oc) part := V2.mono (S := fun b => W1.heap.size ≤ b) HCo.out (fun b hb _ => by have hb : W1.heap.size ≤ b := hb; omega) (fun b hb _ => hd4 b (by have hb : W1.heap.size ≤ b := hb; omega))
     have hz0 : wz.cell? ⟨W.heap.size, 0, none⟩ = some (.int .i64 m.c) := by rw [cell_of_block hd3]; rfl
     have hz1 : wz.cell? ⟨W.heap.size, 1, none⟩ = some (.int .i64 m.d) := by rw [cell_of_block hd3]; rfl
     have hz2 : wz.cell? ⟨W.heap.size, 2, none⟩ = some (.int .i64 m.s) := by rw [cell_of_block hd3]; rfl
     have hz3 : wz.cell? ⟨W.heap.size, 3, none⟩ = some (.int .i64 m.e) := by rw [cell_of_block hd3]; rfl
     have hz4 : wz.cell? ⟨W.heap.size, 4, none⟩ = some (.int .i64 m.l) := by rw [cell_of_block hd3]; rfl
     have hz5 : wz.cell? ⟨W.heap.size, 5, none⟩ = some (.slice ta T.length tc) := by rw [cell_of_block hd3]; rfl
     have HZ := Lib.hid (And.intro hd1 (And.intro hd2 (And.intro hFz (And.intro hcz (And.intro hwz (And.intro hz0 (And.intro hz1 (And.intro hz2 (And.intro hz3 (And.intro hz4 hz5)))))))))); clear hd1 hd2 hd3 hd4 hFz hcz hwz hz0 hz1 hz2 hz3 hz4 hz5
     go_wp2_with fail
     have hwz := HZ.out.2.2.2.2.1
     unfold putS putR at hwz
     rw [← hwz]
     clear hwz
     obtain ⟨hd1, hd2, hFz, hcz, hwzz, hz0, hz1, hz2, hz3, hz4, hz5⟩ := HZ.out
     clear hwzz
     exact bodyPost_ret (v := .tuple #[.agg #[.int .i64 m.c, .int .i64 m.d, .int .i64 m.s, .int .i64 m.e, .int .i64 m.l, .slice ta T.length tc], (.slice oa part.length oc)]) (by simp [results, Tryz.results97, go_sem, hz0, hz1, hz2, hz3, hz4, hz5]) rfl ⟨m, _, _, T, part, rfl, HM.out, hFz, hcz, (fun _ => HPo.out), hd1, hd2⟩
    ·obtain ⟨n, rfl⟩ : ∃ k, n = k + 1 := ⟨n - 1, by omega⟩
     have hnd : decide ((0 : Int) < ((n + 1 : Nat) : Int)) = true := decide_eq_true (by omega)
     have hnd2 : decide ((0 : Int) < (n : Int) + 1) = true := decide_eq_true (by omega)
     have hnd3 : decide (0 < n + 1) = true := decide_eq_true (by omega)
     have hnT : n + 1 ≤ 12 := by omega
     have hpl0 : part.length < T.length := by omega
     have hpv : PV (.slice oa part.length oc) := by obtain ⟨vs, h1, _⟩ := hO; exact own_PV h1
     have HR := Lib.hid (And.intro hO (And.intro hfit (And.intro hsr (And.intro hor (And.intro hpv hnp))))); clear hO hfit hsr hor hpv hnp hn
     have hcMo : ∀ o, wo.cell? ⟨w3.heap.size, o, none⟩ = (#[.int .i64 m.c, .int .i64 m.d, .int .i64 m.s, .int .i64 m.e, .int .i64 m.l, .slice ta T.length tc] : Array Value)[o]? := fun o => by rw [cell_of_block HDo.out.hm]
     have Hpl := Lib.hid hpl0; clear hpl0
     go_wp2_with fail
     refine (l16Candidates_any m _ _ T part 6 wo HR.out.2.1 Hpl.out (by omega) HDo.out.tab HR.out.1.v2 (fun _ => HR.out.2.2.2.2.1)).mono ?_
     rintro e' w9 ⟨lv, ls, rfl, ⟨hL, hL8, hLk⟩, hb9⟩
     have hz9 := hb9.size
     obtain ⟨la, lc, rfl, _, _⟩ := hL.form
     have HD9 := Lib.hid (HDo.out.step (HR.out.2.2.1.below hb9) (Only.of_below hb9) (by omega) (by omega) (by omega))
     have H9 := Lib.hid (And.intro (HR.out.2.2.2.1.then_below hb9) (And.intro hL (And.intro hLk (HR.out.1.below hb9)))); clear hL hLk hb9 hcMo
     by_cases hl0 : ls.length = 0
     ·have hl0d : ((ls.length : Int) == 0) = true := by simp [hl0]
      have HC9 := Lib.hid (H9.out.2.2.2.v2.mono (S' := fun b => W1.heap.size ≤ b) (fun b hb _ => by have hb : w6.heap.size ≤ b := hb; omega) (fun _ _ _ => rfl))
      clear hnd hnd2 hnd3 hL8
      obtain ⟨lsl, hlsl⟩ : ∃ q, ls.length = q := ⟨_, rfl⟩
      rw [hlsl] at hl0 hl0d ⊢
      subst hl0
      clear hlsl
      have hcM : ∀ o, w9.cell? ⟨w3.heap.size, o, none⟩ = (#[.int .i64 m.c, .int .i64 m.d, .int .i64 m.s, .int .i64 m.e, .int .i64 m.l, .slice ta T.length tc] : Array Value)[o]? := fun o => by rw [cell_of_block HD9.out.hm]
      have hcRz : ∀ o, w9.cell? ⟨W.heap.size, o, none⟩ = (#[.int .i64 0, .int .i64 0, .int .i64 0, .int .i64 0, .int .i64 0, .slice none 0 0] : Array Value)[o]? := fun o => by rw [cell_of_block HD9.out.hr]
      have hfRz := fun o => frozen_of_block HD9.out.hr o
      have hdone := putS_facts HD9.out.src HD9.out.only HD9.out.hr (by omega) (Nat.le_refl _) (by omega) (.int .i64 m.c) (.int .i64 m.d) (.int .i64 m.s) (.int .i64 m.e) (.int .i64 m.l) (.slice ta T.length tc)
      obtain ⟨wz, hwz⟩ : ∃ wz, wz = putS w9 W.heap.size (.int .i64 m.c) (.int .i64 m.d) (.int .i64 m.s) (.int .i64 m.e) (.int .i64 m.l) (.slice ta T.length tc) := ⟨_, rfl⟩
      rw [← hwz] at hdone
      obtain ⟨hd1, hd2, hd3, hd4⟩ := hdone
      have hFz : V2 (fun b => W.heap.size ≤ b) wz (.slice ta T.length tc) T := V2.mono (S := fun b => W1.heap.size ≤ b ∧ b < w3.heap.size) HD9.out.tab (fun b hb _ => by have hb := hb.1; omega) (fun b hb _ => hd4 b (by have hb := hb.1; omega))
      have hcz : V2 (fun b => W.heap.size ≤ b) wz (.slice oa part.length oc) part := V2.mono (S := fun b => W1.heap.size ≤ b) HC9.out (fun b hb _ => by have hb : W1.heap.size ≤ b := hb; omega) (fun b hb _ => hd4 b (by have hb : W1.heap.size ≤ b := hb; omega))
      have hz0 : wz.cell? ⟨W.heap.size, 0, none⟩ = some (.int .i64 m.c) := by rw [cell_of_block hd3]; rfl
      have hz1 : wz.cell? ⟨W.heap.size, 1, none⟩ = some (.int .i64 m.d) := by rw [cell_of_block hd3]; rfl
      have hz2 : wz.cell? ⟨W.heap.size, 2, none⟩ = some (.int .i64 m.s) := by rw [cell_of_block hd3]; rfl
      have hz3 : wz.cell? ⟨W.heap.size, 3, none⟩ = some (.int .i64 m.e) := by rw [cell_of_block hd3]; rfl
      have hz4 : wz.cell? ⟨W.heap.size, 4, none⟩ = some (.int .i64 m.l) := by rw [cell_of_block hd3]; rfl
      have hz5 : wz.cell? ⟨W.heap.size, 5, none⟩ = some (.slice ta T.length tc) := by rw [cell_of_block hd3]; rfl
      have HZ := Lib.hid (And.intro hd1 (And.intro hd2 (And.intro hFz (And.intro hcz (And.intro hwz (And.intro hz0 (And.intro hz1 (And.intro hz2 (And.intro hz3 (And.intro hz4 hz5)))))))))); clear hd1 hd2 hd3 hd4 hFz hcz hwz hz0 hz1 hz2 hz3 hz4 hz5
      go_wp2_with fail
      have hwz := HZ.out.2.2.2.2.1
      unfold putS putR at hwz
      rw [← hwz]
      clear hwz
      obtain ⟨hd1, hd2, hFz, hcz, hwzz, hz0, hz1, hz2, hz3, hz4, hz5⟩ := HZ.out
      clear hwzz
      exact bodyPost_ret (v := .tuple #[.agg #[.int .i64 m.c, .int .i64 m.d, .int .i64 m.s, .int .i64 m.e, .int .i64 m.l, .slice ta T.length tc], (.slice oa part.length oc)]) (by simp [results, Tryz.results97, go_sem, hz0, hz1, hz2, hz3, hz4, hz5]) rfl ⟨m, _, _, T, part, rfl, HM.out, hFz, hcz, (fun _ => HR.out.2.2.2.2.1), hd1, hd2⟩
     ·have hl0d : ((ls.length : Int) == 0) = false := beq_eq_false_iff_ne.2 (by omega)
      have hl00 : ¬ (ls.length : Int) = 0 := by omega
      go_wp2_with fail
      refine (l01Next_any B0 SB _ _ HD9.out.src).mono ?_
      rintro e' wb ⟨y, rfl, ⟨hy0, hy1⟩, hsb, hob⟩
      have hzb := hob.size
      obtain ⟨k, rfl⟩ : ∃ k : Nat, y = (k : Int) := ⟨y.toNat, by omega⟩
      have hk : k < ls.length := by omega
      have hk1 : ¬ ls.length ≤ k := by omega
      have hLb := H9.out.2.1.only hob (by omega)
      obtain ⟨lvs, hlv1, hlv2⟩ := hLb
      obtain ⟨g, cap, ra, rc, e, hcc, hV⟩ := OV.row hlv1 hlv2 hk
      simp only [Value.slice.injEq] at e
      obtain ⟨rfl, _, rfl⟩ := e
      have hOb := H9.out.2.2.2.only hob (by omega)
      obtain ⟨vs, hvs, hrv⟩ := hOb
      have hpl9 : part.length ≤ 1000 := by have := Hpl.out; omega
      have horb := H9.out.1.trans hob
      have hkey : isKeyB m (getl ls k) = true := H9.out.2.2.1 _ (getl_mem hk)
      have hVk : V1 (fun b => w6.heap.size ≤ b ∧ (Value.slice oa part.length oc).ownBlock ≠ some b) wb (.slice ra (getl ls k).length rc) (getl ls k) := hV.mono (fun b hb _ => ⟨by have := hb.1; omega, fun e => by
       obtain ⟨vs', g1, _⟩ := HR.out.1
       have := (g1.lt b e).2
       have := hb.1
       omega⟩) (fun _ _ _ => rfl)
      have HB := Lib.hid (And.intro hvs (And.intro hrv (And.intro hVk (And.intro hsb (And.intro horb hkey))))); clear hvs hrv hVk hsb horb hkey hlv1 hlv2 hV hob hy0 hy1
      have hvsb := HB.out.1
      have hccz : wb.cell? ⟨g, k, none⟩ = some (.slice ra (getl ls k).length rc) := hcc
      go_wp2_with (at_builtin; refine wp_app1 _ rfl _ _ 26 rfl w6.heap.size 35 (.slice none 0 0) 24 Tryz.underlying26 inf_ints rfl _ _ _ rfl hvsb (.slice ra (getl ls k).length rc) _ rfl rfl (by omega) (by omega) (by omega) ?_; intro v1 w1 hown1 hgrow1 hblk1 hB1)
      have hP := OV.push2 HB.out.1 HB.out.2.1 HB.out.2.2.1 hown1 hgrow1 hblk1
      have hg1 : Chg (fun i => w6.heap.size ≤ i) wb w1 := (Chg.refl _ _).grown hgrow1 (fun g hg => .inl (hvsb.lt g hg).1)
      have hs1 := HB.out.2.2.2.1.keep hg1 (fun b hb => ⟨by omega, by omega⟩)
      have hoW1 : Only SB w6 w1 := Chg.trans HB.out.2.2.2.2.1 (G := fun i => w6.heap.size ≤ i) hg1 (fun i hi => .inr hi)
      obtain ⟨na, nc, rfl, _, _⟩ := own_form hown1
      have HE := Lib.hid (And.intro hP (And.intro hs1 (And.intro hoW1 (HR.out.2.1.snoc Hpl.out HB.out.2.2.2.2.2)))); clear hP hg1 hs1 hoW1 hgrow1 hblk1 hB1 hown1 hvsb
      go_roundw
      case rel => exact ⟨n, part ++ [getl ls k], by have := HR.out.2.2.2.2.2; simp; omega, by go_num, HE.out.1, HE.out.2.2.2, HE.out.2.1, HE.out.2.2.1⟩
      case measure => simp [intOf]
theorem putS_new {W w : World} {c0 c1 c2 c3 c4 c5 : Value} (hB : Below W.heap.size W w) (h : w.heap[W.heap.size]? = some (.cells #[c0, c1, c2, c3, c4, c5] 28 (0, 0))) (v0 v1 v2 v3 v4 v5 : Value) :
  Below W.heap.size W (putS w W.heap.size v0 v1 v2 v3 v4 v5) ∧ (putS w W.heap.size v0 v1 v2 v3 v4 v5).heap[W.heap.size]? = some (.cells #[v0, v1, v2, v3, v4, v5] 28 (0, 0)) ∧ ∀ b, b ≠ W.heap.size → (putS w W.heap.size v0 v1 v2 v3 v4 v5).heap[b]? = w.heap[b]? := by
 refine ⟨?_, ?_, fun b hb => ?_⟩
 ·unfold putS putR
  exact ((((((hB.setCell (Nat.le_refl _) _).setCell (Nat.le_refl _) _).setCell (Nat.le_refl _) _).setCell (Nat.le_refl _) _).setCell (Nat.le_refl _) _).setCell (Nat.le_refl _) _)
 ·unfold putS putR
  rw [heap_setCell_self (heap_setCell_self (heap_setCell_self (heap_setCell_self (heap_setCell_self (heap_setCell_self h _) _) _) _) _) _]
  simp
 ·unfold putS putR
  (repeat rw [heap_setCell_other _ hb])
theorem VB.below {S : Nat → Prop} {w w' : World} {v : Value} {l : List Int} (h : VB S w v l) (hb : Below w.heap.size w w') : VB S w' v l :=
 h.mono (fun _ h _ => h) (Below.keep hb fun _ _ h => h)
theorem Only.to_below {SB B : Nat} {a b : World} (h : Only SB a b) (hS : B ≤ SB) (hB : B ≤ a.heap.size) : Below B a b := Chg.to_below h (fun i hi => by omega) hB
/-- What a draw of a system and cuts from a code answers; X: what stands beside them. -/
def DrawC (W : World) (X : Mk → List (List Int) → List (List Int) → World → List Value → Prop) (e : Ending) (w' : World) : Prop :=
 ∃ (m : Mk) (u cv : Value) (T cuts : List (List Int)) (vs : List Value), e = .returned (.tuple (#[.agg #[.int .i64 m.c, .int .i64 m.d, .int .i64 m.s, .int .i64 m.e, .int .i64 m.l, u], cv] ++ vs.toArray)) ∧ X m T cuts w' vs ∧ V2 (fun b => W.heap.size ≤ b) w' u T ∧ V2 (fun b => W.heap.size ≤ b) w' cv cuts ∧ Below W.heap.size W w'
def DrawC2 (W : World) : Ending → World → Prop := DrawC W fun _ _ _ _ vs => vs = []
theorem DrawC2.open {W w' : World} {e : Ending} (h : DrawC2 W e w') : ∃ (m : Mk) (u cv : Value) (T cuts : List (List Int)), e = .returned (.tuple #[.agg #[.int .i64 m.c, .int .i64 m.d, .int .i64 m.s, .int .i64 m.e, .int .i64 m.l, u], cv]) ∧ V2 (fun b => W.heap.size ≤ b) w' u T ∧ V2 (fun b => W.heap.size ≤ b) w' cv cuts ∧ Below W.heap.size W w' := by
 obtain ⟨m, u, cv, T, cuts, vs, rfl, rfl, h1, h2, h3⟩ := h
 exact ⟨m, u, cv, T, cuts, rfl, h1, h2, h3⟩
def DrawCi (W : World) : Ending → World → Prop := DrawC W fun _ _ _ _ vs => ∃ n : Int, vs = [.int .i64 n]
def DrawCk (W : World) : Ending → World → Prop := DrawC W fun _ _ _ w' vs => ∃ kv key, vs = [kv] ∧ V1 (fun b => W.heap.size ≤ b) w' kv key
def DrawCkw (W : World) : Ending → World → Prop := DrawC W fun _ _ _ w' vs => ∃ kv key x y, vs = [kv, .int .i64 x, .int .i64 y] ∧ V1 (fun b => W.heap.size ≤ b) w' kv key
theorem DrawCi.open {W w' : World} {e : Ending} (h : DrawCi W e w') : ∃ (m : Mk) (u cv : Value) (T cuts : List (List Int)) (n : Int), e = .returned (.tuple #[.agg #[.int .i64 m.c, .int .i64 m.d, .int .i64 m.s, .int .i64 m.e, .int .i64 m.l, u], cv, .int .i64 n]) ∧ V2 (fun b => W.heap.size ≤ b) w' u T ∧ V2 (fun b => W.heap.size ≤ b) w' cv cuts ∧ Below W.heap.size W w' := by
 obtain ⟨m, u, cv, T, cuts, vs, rfl, ⟨n, rfl⟩, h1, h2, h3⟩ := h
 exact ⟨m, u, cv, T, cuts, n, rfl, h1, h2, h3⟩
theorem DrawCk.open {W w' : World} {e : Ending} (h : DrawCk W e w') : ∃ (m : Mk) (u cv : Value) (T cuts : List (List Int)) (kv : Value) (key : List Int), e = .returned (.tuple #[.agg #[.int .i64 m.c, .int .i64 m.d, .int .i64 m.s, .int .i64 m.e, .int .i64 m.l, u], cv, kv]) ∧ V1 (fun b => W.heap.size ≤ b) w' kv key ∧ V2 (fun b => W.heap.size ≤ b) w' u T ∧ V2 (fun b => W.heap.size ≤ b) w' cv cuts ∧ Below W.heap.size W w' := by
 obtain ⟨m, u, cv, T, cuts, vs, rfl, ⟨kv, key, rfl, h0⟩, h1, h2, h3⟩ := h
 exact ⟨m, u, cv, T, cuts, kv, key, rfl, h0, h1, h2, h3⟩
theorem DrawCkw.open {W w' : World} {e : Ending} (h : DrawCkw W e w') : ∃ (m : Mk) (u cv : Value) (T cuts : List (List Int)) (kv : Value) (key : List Int) (x y : Int), e = .returned (.tuple #[.agg #[.int .i64 m.c, .int .i64 m.d, .int .i64 m.s, .int .i64 m.e, .int .i64 m.l, u], cv, kv, .int .i64 x, .int .i64 y]) ∧ V1 (fun b => W.heap.size ≤ b) w' kv key ∧ V2 (fun b => W.heap.size ≤ b) w' u T ∧ V2 (fun b => W.heap.size ≤ b) w' cv cuts ∧ Below W.heap.size W w' := by
 obtain ⟨m, u, cv, T, cuts, vs, rfl, ⟨kv, key, x, y, rfl, h0⟩, h1, h2, h3⟩ := h
 exact ⟨m, u, cv, T, cuts, kv, key, x, y, rfl, h0, h1, h2, h3⟩
end Go.Proofs.YtmaefilliggjiaaGreat
