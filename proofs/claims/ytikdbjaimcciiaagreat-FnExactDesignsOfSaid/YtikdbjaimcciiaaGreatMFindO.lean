/- The search for a design that begins with partial cuts: the program and the reference. No conditions. -/
import Derived.OwnWalk
import Derived.Test.YtikdbjaimcciiaaGreatMGoR
namespace Go.Proofs.YtikdbjaimcciiaaGreat
open Go.RowKit
set_option linter.unusedVariables false
set_option linter.unusedSimpArgs false

theorem F2.nil5 {B : Nat} {w : World} : F2 B w (.slice none 0 0) [] := ⟨0, fun _ => 0, ⟨none, 0, rfl, Nat.le_refl _, Nat.zero_le _, fun hn => absurd rfl hn, fun k hk => by simp at hk⟩, fun hn => absurd rfl hn, fun k hk => by simp at hk⟩
set_option maxRecDepth 100000 in
set_option maxHeartbeats 1000000 in
theorem FindFrom_any {S S' : Nat → Prop} (m : Mk) (u v : Value) (t cuts : List (List Int)) (limit : Int) (W : World) (h : V2 S W u t) (hc : V2 S' W v cuts) (hcp : cuts = [] → PV v) :
    Calls Tryz.prog 45 #[.agg #[.int .i64 m.c, .int .i64 m.d, .int .i64 m.s, .int .i64 m.e, .int .i64 m.l, u], v, .int .i64 limit] W fun e' w' => ∃ v', e' = .returned (.tuple #[v', .int .i64 (findAns m t cuts limit).2.1, .int .i64 (findAns m t cuts limit).2.2]) ∧ F2 W.heap.size w' v' (findAns m t cuts limit).1 ∧ Below W.heap.size W w' := by
  obtain ⟨a, c, rfl, hmx⟩ := h.form
  obtain ⟨a', c', rfl, hmx'⟩ := hc.form
  obtain ⟨W1, hW1, hB01, hz01, HZ01, hc01, hh01⟩ := box_facts W #[.int .i64 m.c, .int .i64 m.d, .int .i64 m.s, .int .i64 m.e, .int .i64 m.l, .slice a t.length c] 28
  have hV1 : V2 (fun _ => True) W1 (.slice a t.length c) t := (h.below hB01).any
  have hC1 : V2 (fun _ => True) W1 (.slice a' cuts.length c') cuts := (hc.below hB01).any
  have hsc := searchCode_any m _ _ t cuts limit W1 hV1 hC1
  by_cases hp : searchC m t cuts limit = 0
  · obtain ⟨hok, hlim, hop⟩ := searchC_ok.1 hp
    rw [hp] at hsc
    obtain ⟨L, rfl⟩ : ∃ L : Nat, limit = (L : Int) := ⟨limit.toNat, by omega⟩
    have hfin : findAns m t cuts (L : Int) = pickA (firstF m.c.toNat t (keysOf m) cuts 1 L) := by unfold findAns; rw [if_neg (by rw [hp]; simp)]; rfl
    have hfd := fun w (hb : Below W1.heap.size W1 w) => firstDesigns_any m (.slice a t.length c) (.slice a' cuts.length c') t cuts 1 L w (hV1.below hb) (hC1.below hb) hcp hok hop (by omega) (by omega)
    obtain ⟨r, hr⟩ : ∃ r, firstF m.c.toNat t (keysOf m) cuts 1 L = r := ⟨_, rfl⟩
    rw [hfin, hr]
    simp only [hr] at hfd
    obtain ⟨r1, r2, rl⟩ := r
    have H := Lib.hid (And.intro hsc (And.intro hfd hfin)); clear hsc hfd hfin hp hok hlim hop hr
    cases rl with
    | nil =>
      cases r2
      · skip
        go_enter Tryz.func45, Tryz.ntmps45
        go_wp2_with fail
        rw [← hW1]
        refine H.out.1.mono ?_
        rintro e' w2 ⟨rfl, hb2⟩
        have hz2 := hb2.size
        have hx2 : ∀ o, w2.cell? ⟨W.heap.size, o, none⟩ = (#[.int .i64 m.c, .int .i64 m.d, .int .i64 m.s, .int .i64 m.e, .int .i64 m.l, .slice a t.length c] : Array Value)[o]? := fun o => by rw [(bcell hb2).1 _ _ hz01, hc01]
        clear hc01 hh01
        go_wp2_with fail
        refine (H.out.2.1 _ hb2).mono ?_
        rintro e' w3 ⟨⟨dv, XB, vs, LL, UU, fv, rfl, hX, hO⟩, hb3⟩
        have hbz := hB01.trans ((hb2.trans (hb3.mono hz2)).mono (by omega))
        have cX3 : w3.cell? ⟨XB, 7, none⟩ = some (.int .i64 (r1 : Int)) := by rw [cell_of_block hX]; rfl
        have cX4 : w3.cell? ⟨XB, 8, none⟩ = some (.bool false) := by rw [cell_of_block hX]; rfl
        clear hx2
        obtain ⟨da, dc, rfl, _, _⟩ := hO.form
        clear hO
        go_wp2_with fail
        go_ret3
        exact ⟨_, rfl, F2.nil5, hbz⟩
      · skip
        go_enter Tryz.func45, Tryz.ntmps45
        go_wp2_with fail
        rw [← hW1]
        refine H.out.1.mono ?_
        rintro e' w2 ⟨rfl, hb2⟩
        have hz2 := hb2.size
        have hx2 : ∀ o, w2.cell? ⟨W.heap.size, o, none⟩ = (#[.int .i64 m.c, .int .i64 m.d, .int .i64 m.s, .int .i64 m.e, .int .i64 m.l, .slice a t.length c] : Array Value)[o]? := fun o => by rw [(bcell hb2).1 _ _ hz01, hc01]
        clear hc01 hh01
        go_wp2_with fail
        refine (H.out.2.1 _ hb2).mono ?_
        rintro e' w3 ⟨⟨dv, XB, vs, LL, UU, fv, rfl, hX, hO⟩, hb3⟩
        have hbz := hB01.trans ((hb2.trans (hb3.mono hz2)).mono (by omega))
        have cX3 : w3.cell? ⟨XB, 7, none⟩ = some (.int .i64 (r1 : Int)) := by rw [cell_of_block hX]; rfl
        have cX4 : w3.cell? ⟨XB, 8, none⟩ = some (.bool true) := by rw [cell_of_block hX]; rfl
        clear hx2
        obtain ⟨da, dc, rfl, _, _⟩ := hO.form
        clear hO
        go_wp2_with fail
        go_ret3
        exact ⟨_, rfl, F2.nil5, hbz⟩
    | cons d ds =>
      show Calls _ _ _ _ fun e' w' => ∃ v', e' = .returned (.tuple #[v', .int .i64 (r1 : Int), .int .i64 0]) ∧ F2 W.heap.size w' v' d ∧ Below W.heap.size W w'
      go_enter Tryz.func45, Tryz.ntmps45
      go_wp2_with fail
      rw [← hW1]
      refine H.out.1.mono ?_
      rintro e' w2 ⟨rfl, hb2⟩
      have hz2 := hb2.size
      have hx2 : ∀ o, w2.cell? ⟨W.heap.size, o, none⟩ = (#[.int .i64 m.c, .int .i64 m.d, .int .i64 m.s, .int .i64 m.e, .int .i64 m.l, .slice a t.length c] : Array Value)[o]? := fun o => by rw [(bcell hb2).1 _ _ hz01, hc01]
      clear hc01 hh01
      go_wp2_with fail
      refine (H.out.2.1 _ hb2).mono ?_
      rintro e' w3 ⟨⟨dv, XB, vs, LL, UU, fv, rfl, hX, hO⟩, hb3⟩
      have hbz := hB01.trans ((hb2.trans (hb3.mono hz2)).mono (by omega))
      have cX3 : w3.cell? ⟨XB, 7, none⟩ = some (.int .i64 (r1 : Int)) := by rw [cell_of_block hX]; rfl
      have cX4 : w3.cell? ⟨XB, 8, none⟩ = some (.bool r2) := by rw [cell_of_block hX]; rfl
      clear hx2
      obtain ⟨g, cap, rfl, _, _⟩ := own_some hO.own (by simp)
      obtain ⟨rv, h1, h2⟩ := hO.each 0 (by simp)
      have hc0 : w3.cell? ⟨g, 0, none⟩ = some rv := by
        have h3 := hO.own.cells (g := g) rfl 0 rv h1
        simpa [Addr.add] using h3
      have hF : F2 W.heap.size w3 rv d := h2.f2.mono (by have := (hO.apart 0 (by simp)).1; omega)
      obtain ⟨ra, rc, rfl, _⟩ := hF.v2.form
      have HF := Lib.hid (And.intro hF hbz); clear hF h2 hO hbz
      have hdl : (0 : Int) < ((d :: ds).length : Int) := by simp
      go_wp2_with fail
      go_region
      all_goals
        go_wp2_with fail
        go_ret3
        exact ⟨_, rfl, HF.out.1.below ((Below.refl _ _).drew), HF.out.2.drew⟩
  · have hfin : findAns m t cuts limit = ([], 0, searchC m t cuts limit) := by unfold findAns; rw [if_pos hp]
    have e1 : (searchC m t cuts limit != 0) = true := by simp [hp]
    rw [hfin]
    have H := Lib.hid (And.intro hsc hfin); clear hsc hfin hp
    generalize searchC m t cuts limit = pc at *
    go_enter Tryz.func45, Tryz.ntmps45
    go_wp2_with fail
    rw [← hW1]
    refine H.out.1.mono ?_
    rintro e' w2 ⟨rfl, hb2⟩
    have hz2 := hb2.size
    have hx2 : ∀ o, w2.cell? ⟨W.heap.size, o, none⟩ = (#[.int .i64 m.c, .int .i64 m.d, .int .i64 m.s, .int .i64 m.e, .int .i64 m.l, .slice a t.length c] : Array Value)[o]? := fun o => by rw [(bcell hb2).1 _ _ hz01, hc01]
    clear hc01 hh01
    clear hx2
    go_wp2_with fail
    go_ret3
    exact ⟨_, rfl, F2.nil5, hB01.trans (hb2.mono (by omega))⟩
set_option maxRecDepth 100000 in
set_option maxHeartbeats 1000000 in
theorem l17Run_any {S S' : Nat → Prop} (m : Mk) (u v : Value) (t cuts : List (List Int)) (most : Int) (limit : Nat) (W : World) (h : V2 S W u t) (hc : V2 S' W v cuts) (hcp : cuts = [] → PV v) (hok : PartOk m t cuts) (hmo : most ≤ 1000000) (hlim : limit ≤ 4000) :
    Calls Tryz.prog 116 #[.agg #[.int .i64 m.c, .int .i64 m.d, .int .i64 m.s, .int .i64 m.e, .int .i64 m.l, u], v, .int .i64 most, .int .i64 (limit : Int)] W fun e w' => ∃ RB fv, e = .returned (.pointer (some ⟨RB, 0, none⟩)) ∧ Sg m u limit most RB W.heap.size (firstF m.c.toNat t (keysOf m) cuts most limit) fv w' ∧ Below W.heap.size W w' := by
  obtain ⟨a, c, rfl, hmx⟩ := h.form
  obtain ⟨a', c', rfl, hmx'⟩ := hc.form
  have hmk := Mk.ok_iff.1 hok.fits.ok
  have hfew := hok.few
  obtain ⟨WA, hWA⟩ : ∃ WA, WA = (W.alloc (.cells #[.int .i64 m.c, .int .i64 m.d, .int .i64 m.s, .int .i64 m.e, .int .i64 m.l, .slice a t.length c] 28)).alloc (.cells #[.int .i64 m.c, .int .i64 m.d, .int .i64 m.s, .int .i64 m.e, .int .i64 m.l, .slice a t.length c, .int .i64 (limit : Int), .int .i64 most, .int .i64 0, .bool false, .slice none 0 0] 119) := ⟨_, rfl⟩
  have hbA : Below W.heap.size W WA := by rw [hWA]; exact by (repeat (first | (with_reducible refine Below.setCell ?_ ?_ _) | (with_reducible refine Below.alloc ?_ ?_ _) | (with_reducible refine Below.drew ?_) | (with_reducible refine below_drewN ?_ _) | (with_reducible exact Below.refl _ _) | (with_reducible assumption) | (with_reducible refine Below.trans ?_ (Below.mono (by with_reducible assumption) ?_)) | go_size))
  have hzA : WA.heap.size = W.heap.size + 2 := by rw [hWA]; simp
  have hA1 : WA.heap[W.heap.size + 1]? = some (.cells (sgCells m (.slice a t.length c) (.slice none 0 0) limit most (0, false, [])) 119 (0, 0)) := by rw [hWA]; simp only [heap_alloc_at, World.size_alloc]; simp [sgCells]
  have hSg : Sg m (.slice a t.length c) limit most (W.heap.size + 1) W.heap.size (0, false, []) (.slice none 0 0) WA :=
    ⟨hA1, ⟨[], ⟨rfl, .inl ⟨rfl, rfl⟩⟩, fun k hk => by simp at hk⟩, by simp [Value.ownBlock], ⟨Nat.zero_le _, hlim⟩, by omega⟩
  have hno : ∀ b, b < W.heap.size → ¬ RG (W.heap.size + 1) (.slice none 0 0) b := fun b hb h => by
    rcases h with h | h
    · omega
    · simp [Value.ownBlock] at h
  by_cases hmp : 0 < most
  · have hfin : firstF m.c.toNat t (keysOf m) cuts most limit = (goF limit (stayP m.c.toNat t) (visK most) (keysOf m) (t.length - cuts.length) cuts (0, false, [])).1 := by unfold firstF; rw [if_pos hmp]
    rw [hfin]
    have hgo := l17From_any m t m.c.toNat (by omega) (.slice a t.length c) limit most hmo (W.heap.size + 1) W.heap.size (t.length - cuts.length) cuts (.slice a' cuts.length c') (0, false, []) (.slice none 0 0) WA (by omega)
      ⟨hSg, h.old.mono (fun b h1 _ => hno b h1) (fun b _ h2 => hbA.block b h2), hc.old.mono (fun b h1 _ => hno b h1) (fun b _ h2 => hbA.block b h2), hcp, hok, by show (([] : List (List (List Int))).length : Int) < most; simp; omega⟩
    obtain ⟨r, hr⟩ : ∃ r, goF limit (stayP m.c.toNat t) (visK most) (keysOf m) (t.length - cuts.length) cuts (0, false, []) = r := ⟨_, rfl⟩
    rw [hr] at hgo ⊢
    have hgr : decide (0 < most) = true := decide_eq_true hmp
    have HWA := Lib.hid (And.intro hWA (And.intro hgo (And.intro hbA (And.intro hr hok)))); clear hWA hgo hbA hSg hno hA1 hok hr hfin
    go_enter Tryz.func116, Tryz.ntmps116
    go_wp2_with fail
    rw [← HWA.out.1]
    refine HWA.out.2.1.mono ?_
    rintro e' w' ⟨fv, rfl, hG, hch, hsub⟩
    have hb' : Below W.heap.size W w' := HWA.out.2.2.1.trans (hch.to_below (B := W.heap.size) (fun b hb => by
      rcases hb with e | e
      · omega
      · simp [Value.ownBlock] at e) (by omega))
    have HF := Lib.hid (And.intro hG hb'); clear hG hch hsub hb'
    go_wp2_with fail
    go_ret
    exact ⟨_, fv, rfl, HF.out.1, HF.out.2⟩
  · have hfin : firstF m.c.toNat t (keysOf m) cuts most limit = (0, false, []) := by unfold firstF; rw [if_neg hmp]
    rw [hfin]
    have hgr : decide (0 < most) = false := decide_eq_false hmp
    have HWA := Lib.hid (And.intro hWA (And.intro hSg hbA)); clear hWA hSg hbA hno hA1 hok hfin
    go_enter Tryz.func116, Tryz.ntmps116
    go_wp2_with fail
    rw [← HWA.out.1]
    go_ret
    exact ⟨_, rfl, ⟨_, HWA.out.2.1⟩, HWA.out.2.2⟩
set_option maxRecDepth 100000 in
set_option maxHeartbeats 1000000 in
theorem l17First_any (m : Mk) (tv : Value) (t : List (List Int)) (limit : Nat) (most : Int) (RB B : Nat) (s : DSt) (fv : Value) (W : World) (h : Sg m tv limit most RB B s fv W) (hd : ∀ x ∈ s.2.2, DesOk m t x) :
    Calls Tryz.prog 123 #[.pointer (some ⟨RB, 0, none⟩)] W fun e w' => ∃ v', e = .returned (.tuple #[v', .int .i64 (pickA s).2.1, .int .i64 (pickA s).2.2]) ∧ F2 W.heap.size w' v' (pickA s).1 ∧ Below W.heap.size W w' := by
  obtain ⟨s1, s2, sl⟩ := s
  have hr := h.cell
  cases sl with
  | nil =>
    obtain ⟨fa, fc, rfl, _⟩ := h.form
    have hx : ∀ o, W.cell? ⟨RB, o, none⟩ = (#[.int .i64 m.c, .int .i64 m.d, .int .i64 m.s, .int .i64 m.e, .int .i64 m.l, tv, .int .i64 (limit : Int), .int .i64 most, .int .i64 (s1 : Int), .bool s2, .slice fa 0 fc] : Array Value)[o]? := fun o => by rw [hr]; rfl
    clear hr h hd
    cases s2
    · go_enter Tryz.func123, Tryz.ntmps123
      go_wp2_with fail
      go_ret3
      exact ⟨_, rfl, F2.nil5, Below.refl _ _⟩
    · go_enter Tryz.func123, Tryz.ntmps123
      go_wp2_with fail
      go_ret3
      exact ⟨_, rfl, F2.nil5, Below.refl _ _⟩
  | cons d ds =>
    show Calls _ _ _ _ fun e' w' => ∃ v', e' = .returned (.tuple #[v', .int .i64 (s1 : Int), .int .i64 0]) ∧ F2 W.heap.size w' v' d ∧ Below W.heap.size W w'
    obtain ⟨vs, hvs, hvs2⟩ := h.own
    obtain ⟨g, cap, rfl, _, _⟩ := own_some hvs (by simp)
    obtain ⟨rv, h1, h2⟩ := hvs2 0 (by simp)
    have h2 : V2 (fun b => ¬ RG RB (.slice (some ⟨g, 0, none⟩) (d :: ds).length cap) b) W rv d := h2
    have hcc : W.cell? ⟨g, 0, none⟩ = some rv := by
      have h3 := hvs.cells (g := g) rfl 0 rv h1
      simpa [Addr.add] using h3
    have hfew := (hd d (List.mem_cons_self ..)).few
    have hll := fun w (hb : Below W.heap.size W w) => l15Lists_any rv d w (h2.below hb) (by omega) (fun k hk => ⟨by have := (hfew.2 k hk).1; omega, (hfew.2 k hk).2⟩)
    obtain ⟨ra, rc, rfl, _⟩ := h2.form
    have hx : ∀ o, W.cell? ⟨RB, o, none⟩ = (#[.int .i64 m.c, .int .i64 m.d, .int .i64 m.s, .int .i64 m.e, .int .i64 m.l, tv, .int .i64 (limit : Int), .int .i64 most, .int .i64 (s1 : Int), .bool s2, .slice (some ⟨g, 0, none⟩) (d :: ds).length cap] : Array Value)[o]? := fun o => by rw [hr]; rfl
    have hdl : (0 : Int) < ((d :: ds).length : Int) := by simp
    have hRl := lt_of_heap h.hh
    have hgl := lt_of_cell hcc
    have hS : ∀ w', Below W.heap.size W w' → w'.cell? ⟨RB, 10, none⟩ = some (.slice (some ⟨g, 0, none⟩) (d :: ds).length cap) ∧ w'.cell? ⟨RB, 8, none⟩ = some (.int .i64 (s1 : Int)) ∧ w'.cell? ⟨g, 0, none⟩ = some (.slice ra d.length rc) := fun w' hb => ⟨by rw [(bcell hb).1 _ _ hRl, hx]; rfl, by rw [(bcell hb).1 _ _ hRl, hx]; rfl, cell_keep hcc (hb.block _ hgl)⟩
    have hbD : Below W.heap.size W W.drew := (Below.refl _ _).drew
    have H := Lib.hid (And.intro hll h); clear hll h hvs hvs2 h1 h2 hr hd
    go_enter Tryz.func123, Tryz.ntmps123
    go_wp2_with fail
    have hS0 := hS _ hbD
    refine wp_region_noPanic ?_
    refine wp_region_held_drew (S := fun w' => w'.cell? ⟨RB, 10, none⟩ = some (.slice (some ⟨g, 0, none⟩) (d :: ds).length cap) ∧ w'.cell? ⟨RB, 8, none⟩ = some (.int .i64 (s1 : Int)) ∧ w'.cell? ⟨g, 0, none⟩ = some (.slice ra d.length rc)) (by kernel_rfl) hS0 (fun hHeld => ?_)
    (refine wpAnyH_take (i := 0) (v := .pointer (some ⟨RB, 0, none⟩)) rfl (by kernel_rfl) (by kernel_rfl) (by kernel_rfl) (fun _ _ _ h => h) (Or.inl ⟨by kernel_rfl, fun w hSw => by (try dsimp only at hSw); go_split_ands; go_simp⟩) (by assumption) ?_; simp only [Act.put, List.setIfInBounds_toArray, List.set_cons_zero, List.set_cons_succ])
    (refine wpAnyH_take (i := 1) (v := .pointer (some ⟨RB, 0, none⟩)) rfl (by kernel_rfl) (by kernel_rfl) (by kernel_rfl) (fun _ _ _ h => h) (Or.inl ⟨by kernel_rfl, fun w hSw => by (try dsimp only at hSw); go_split_ands; go_simp⟩) (by assumption) ?_; simp only [Act.put, List.setIfInBounds_toArray, List.set_cons_zero, List.set_cons_succ])
    (refine wpAnyH_take (i := 2) (v := .pointer (some ⟨RB, 10, none⟩)) rfl (by kernel_rfl) (by kernel_rfl) (by kernel_rfl) (fun _ _ _ h => h) (Or.inl ⟨by kernel_rfl, fun w hSw => by (try dsimp only at hSw); go_split_ands; go_simp⟩) (by assumption) ?_; simp only [Act.put, List.setIfInBounds_toArray, List.set_cons_zero, List.set_cons_succ])
    (refine wpAnyH_take (i := 3) (v := .slice (some ⟨g, 0, none⟩) (d :: ds).length cap) rfl (by kernel_rfl) (by kernel_rfl) (by kernel_rfl) (fun _ _ _ h => h) (Or.inl ⟨by kernel_rfl, fun w hSw => by (try dsimp only at hSw); go_split_ands; go_simp⟩) (by assumption) ?_; simp only [Act.put, List.setIfInBounds_toArray, List.set_cons_zero, List.set_cons_succ])
    (refine wpAnyH_take (i := 4) (v := .pointer (some ⟨g, 0, none⟩)) rfl (by kernel_rfl) (by kernel_rfl) (by kernel_rfl) (fun _ _ _ h => h) (Or.inl ⟨by kernel_rfl, fun w hSw => by (try dsimp only at hSw); go_split_ands; go_simp⟩) (by assumption) ?_; simp only [Act.put, List.setIfInBounds_toArray, List.set_cons_zero, List.set_cons_succ])
    (refine wpAnyH_take (i := 5) (v := .slice ra d.length rc) rfl (by kernel_rfl) (by kernel_rfl) (by kernel_rfl) (fun _ _ _ h => h) (Or.inl ⟨by kernel_rfl, fun w hSw => by (try dsimp only at hSw); go_split_ands; go_simp⟩) (by assumption) ?_; simp only [Act.put, List.setIfInBounds_toArray, List.set_cons_zero, List.set_cons_succ])
    (refine wpAnyH_take (i := 7) (v := .pointer (some ⟨RB, 0, none⟩)) rfl (by kernel_rfl) (by kernel_rfl) (by kernel_rfl) (fun _ _ _ h => h) (Or.inl ⟨by kernel_rfl, fun w hSw => by (try dsimp only at hSw); go_split_ands; go_simp⟩) (by assumption) ?_; simp only [Act.put, List.setIfInBounds_toArray, List.set_cons_zero, List.set_cons_succ])
    (refine wpAnyH_take (i := 8) (v := .pointer (some ⟨RB, 0, none⟩)) rfl (by kernel_rfl) (by kernel_rfl) (by kernel_rfl) (fun _ _ _ h => h) (Or.inl ⟨by kernel_rfl, fun w hSw => by (try dsimp only at hSw); go_split_ands; go_simp⟩) (by assumption) ?_; simp only [Act.put, List.setIfInBounds_toArray, List.set_cons_zero, List.set_cons_succ])
    (refine wpAnyH_take (i := 9) (v := .pointer (some ⟨RB, 8, none⟩)) rfl (by kernel_rfl) (by kernel_rfl) (by kernel_rfl) (fun _ _ _ h => h) (Or.inl ⟨by kernel_rfl, fun w hSw => by (try dsimp only at hSw); go_split_ands; go_simp⟩) (by assumption) ?_; simp only [Act.put, List.setIfInBounds_toArray, List.set_cons_zero, List.set_cons_succ])
    (refine wpAnyH_take (i := 10) (v := .int .i64 (s1 : Int)) rfl (by kernel_rfl) (by kernel_rfl) (by kernel_rfl) (fun _ _ _ h => h) (Or.inl ⟨by kernel_rfl, fun w hSw => by (try dsimp only at hSw); go_split_ands; go_simp⟩) (by assumption) ?_; simp only [Act.put, List.setIfInBounds_toArray, List.set_cons_zero, List.set_cons_succ])
    refine wpAnyH_ready (rs := [6]) (by kernel_rfl) (by simp) (AllReadyH.cons rfl (fun K hK => ?_) AllReadyH.nil)
    go_simp
    go_at_call 117
    refine (H.out.1 _ hbD).mono ?_
    rintro e' w2 ⟨v2, rfl, ⟨hF, _⟩, hb2⟩
    have hb2' : Below W.heap.size W w2 := hbD.trans (hb2.mono (Nat.le_refl _))
    obtain ⟨va, vc, rfl, _⟩ := hF.v2.form
    have hS2 := hS _ hb2'
    have HF := Lib.hid (And.intro hF hb2'); clear hF hb2 hb2'
    dsimp only
    (refine hK.out _ _ hS2 (fun hHeld => ?_); clear hK K; (try simp only [Act.put, List.setIfInBounds_toArray, List.set_cons_zero, List.set_cons_succ]))
    (refine wpAnyH_ready (rs := [11]) (by kernel_rfl) (by simp) (AllReadyH.cons rfl (fun K hK => ?_) AllReadyH.nil); go_simp)
    (refine hK.out _ _ hS2 (fun hHeld => ?_); clear hK K; (try simp only [Act.put, List.setIfInBounds_toArray, List.set_cons_zero, List.set_cons_succ]))
    (refine wpAnyH_ready (rs := [12]) (by kernel_rfl) (by simp) (AllReadyH.cons rfl (fun K hK => ?_) AllReadyH.nil); go_simp)
    (refine hK.out _ _ hS2 (fun hHeld => ?_); clear hK K; (try simp only [Act.put, List.setIfInBounds_toArray, List.set_cons_zero, List.set_cons_succ]))
    (refine wpAnyH_ready (rs := [13]) (by kernel_rfl) (by simp) (AllReadyH.cons rfl (fun K hK => ?_) AllReadyH.nil); go_simp)
    (refine hK.out _ _ hS2 (fun hHeld => ?_); clear hK K; (try simp only [Act.put, List.setIfInBounds_toArray, List.set_cons_zero, List.set_cons_succ]))
    refine wpAnyH_done (by kernel_rfl) (NoPanic.normal ?_) _
    go_wp2_with fail
    go_ret3
    exact ⟨_, rfl, HF.out.1, HF.out.2⟩
end Go.Proofs.YtikdbjaimcciiaaGreat
