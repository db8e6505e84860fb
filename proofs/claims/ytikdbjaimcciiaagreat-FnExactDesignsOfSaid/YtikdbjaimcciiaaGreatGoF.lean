/- The first designs of a search: the closure that keeps them, and the search for them. No conditions. -/
import Derived.Test.YtikdbjaimcciiaaGreatGoV
import Derived.Test.YtikdbjaimcciiaaGreatMOutT
import Derived.Test.YtikdbjaimcciiaaGreatMSort
import Derived.Test.YtikdbjaimcciiaaGreatMFindP
namespace Go.Proofs.YtikdbjaimcciiaaGreat
open Go.RowKit
set_option linter.unusedVariables false
set_option linter.unusedSimpArgs false

theorem inf_intss : (Tryz.prog.info? 26).map (fun i => (i.zero, i.size, i.bytes)) = some (some (.slice none 0 0), 1, 24) := by kernel_rfl
/-- What is kept, and where. -/
def FdInv (B DB PB : Nat) (most : Int) (s : List (List (List Int))) (F : Nat → Prop) (w : World) : Prop :=
  ∃ dv vs L U, (∀ b, F b ↔ (b = DB ∨ b = PB) ∨ T3 L U dv s.length b) ∧ w.heap[DB]? = some (.cells #[dv] 54 (0, 0)) ∧ w.heap[PB]? = some (.cells #[.int .i64 most] 2 (0, 0)) ∧ Out3 B L U w dv vs s ∧
    ¬ T3 L U dv s.length DB ∧ ¬ T3 L U dv s.length PB ∧ DB ≠ PB ∧ B ≤ w.heap.size
theorem enters_fd : Enters 186 := fun args w => by kernel_rfl
theorem own_after {B LB : Nat} {wo w3 : World} {lv : Value} {n : Nat} {vs : List Value} {T E : TypeId} (h1 : wo.ownsRow B E 1 lv n vs) (hlv : wo.heap[LB]? = some (.cells #[lv] T (0, 0))) (hb : Below wo.heap.size wo w3) :
    w3.ownsRow B E 1 lv n vs ∧ w3.heap[LB]? = some (.cells #[lv] T (0, 0)) ∧ w3.cell? ⟨LB, 0, none⟩ = some lv ∧ w3.frozen? ⟨LB, 0, none⟩ = false := by
  have h3 := heap_below hlv hb (lt_of_heap hlv)
  exact ⟨own_chg h1 (Chg.of_below (F := fun _ => False) hb) (fun _ _ h => h), h3, cell_of_block h3 0, frozen_of_block h3 0⟩
set_option maxRecDepth 100000 in
set_option maxHeartbeats 2000000 in
theorem fd1_any {S : Nat → Prop} (v dv : Value) (design : List (List Int)) (s : List (List (List Int))) (vs : List Value) (L U : Nat → Nat) (B DB PB : Nat) (most : Int) (w : World) (hv : V2 S w v design)
    (hl : w.heap[DB]? = some (.cells #[dv] 54 (0, 0))) (hP : w.heap[PB]? = some (.cells #[.int .i64 most] 2 (0, 0))) (hO : Out3 B L U w dv vs s) (hD : ¬ T3 L U dv s.length DB) (hPn : ¬ T3 L U dv s.length PB) (hne : DB ≠ PB) (hB : B ≤ w.heap.size)
    (hd : design.length ≤ 1000) (hr : ∀ k, k < design.length → (getl design k).length ≤ 1000) (hsl : s.length ≤ 1000000) :
    Calls Tryz.prog 186 #[v, .pointer (some ⟨DB, 0, none⟩), .pointer (some ⟨PB, 0, none⟩)] w fun e w' => e = .returned (.bool (visK most s design).2) ∧ ∃ F', FdInv B DB PB most (visK most s design).1 F' w' ∧
      Chg (fun b => (b = DB ∨ b = PB) ∨ T3 L U dv s.length b) w w' ∧ ∀ b, F' b → ((b = DB ∨ b = PB) ∨ T3 L U dv s.length b) ∨ w.heap.size ≤ b := by
  obtain ⟨va, vc, rfl, hvm⟩ := hv.form
  obtain ⟨oa, oc, rfl, ho1, ho2⟩ := own_form hO.own
  have hcl := cell_of_block hl 0
  simp at hcl
  have hcP := cell_of_block hP 0
  simp at hcP
  have hdr : Below w.heap.size w w.drew := (Below.refl _ _).drew
  obtain ⟨i0, hi, hz0, hz1, hz2⟩ := info_parts inf_intss
  have hPlt := lt_of_cell hcP
  have hDlt := lt_of_cell hcl
  unfold visK
  obtain ⟨r, hrr⟩ : ∃ r, decide ((s.length : Int) + 1 < most) = r := ⟨_, rfl⟩
  rw [hrr]
  have HO := Lib.hid (And.intro hO (And.intro hD hPn)); clear hO hD hPn
  have Hl := Lib.hid (And.intro hl hP); clear hl hP
  have Hv := Lib.hid hv
  cases r
  all_goals
    go_enter Tryz.func186, Tryz.ntmps186
    go_wp2_with fail
    go_region_law (first | (go_simp; go_at_call 125; refine (copyLists_any _ design _ (hv.below hdr) hd hr).mono ?_; rintro e' w3 ⟨v3, rfl, hF3, hbc⟩; obtain ⟨a3, c3, rfl, hcc3⟩ := hF3.v2.form; have hb3 : Below w.heap.size w w3 := hdr.trans (hbc.mono (Nat.le_refl _)); obtain ⟨hown3, hh3, hcl3, hfl3⟩ := own_after HO.out.1.own Hl.out.1 hb3; have hz3 := lt_of_heap hh3; have hcl3a : ∀ o, (w3.alloc o).cell? ⟨DB, 0, none⟩ = some (.slice oa s.length oc) := (fun o => cell_keep hcl3 (Below.heap_alloc _ _ _ hz3)); (try dsimp only)) | (refine step_append_lies _ (by rfl) _ _ _ (by rfl) B 26 i0 _ 1 24 Tryz.underlying54 hi hz0 hz1 hz2 rfl (by omega) _ s.length _ (by rfl) (hown3.alloc _) ⟨_, 0, none⟩ 1 1 [.slice a3 design.length c3] (by rfl) (by rfl) (World.news_of_block (heap_alloc_new _ _)) (by simp [Value.oneCell']) (by omega) (by unfold maxLen; omega) (by omega) (by have := hb3.size; simp; omega) _ rfl ?_; intro gg cap w4 hown4 hgrow4 hat4 hlt4; obtain ⟨hh4, hcl4, hfl4⟩ := grown_alloc_at hh3 hgrow4 (fun e => HO.out.2.1 (.inl e))))
    all_goals
      have hz4 := hgrow4.size
      simp only [World.size_alloc] at hz4
      have hz3w := hb3.size
      have hb3a : Below w.heap.size w (w3.alloc (.cells #[.slice a3 design.length c3] 26)) := hb3.alloc hb3.size _
      have hF3a : F2 w.heap.size (w3.alloc (.cells #[.slice a3 design.length c3] 26)) (.slice a3 design.length c3) design := hF3.below ((Below.refl _ _).alloc (Nat.le_refl _) _)
      obtain ⟨hO4, hT4⟩ := HO.out.1.push hB hb3a hF3a hown4 hgrow4 (blk_or rfl hat4)
      have hPne : ¬ PB = DB := fun e => hne e.symm
      have hP4 : w4.heap[PB]? = some (.cells #[.int .i64 most] 2 (0, 0)) := (hgrow4.block PB (by simp; omega) (fun e => HO.out.2.2 (.inl e.symm))).trans ((hb3a.block PB hPlt).trans Hl.out.2)
      have hP5 : (w4.setCell ⟨DB, 0, none⟩ (.slice (some ⟨gg, 0, none⟩) (s.length + 1) cap)).heap[PB]? = some (.cells #[.int .i64 most] 2 (0, 0)) := (heap_setCell_other _ hPne).trans hP4
      have hcP5 := cell_of_block hP5 0
      simp at hcP5
      have hs4 := heap_setCell_self (off := 0) hh4 (.slice (some ⟨gg, 0, none⟩) (s.length + 1) cap)
      have hcl5 := cell_of_block hs4 0
      simp at hcl5
      have hD5 := fun hb => (hT4 DB hb).elim HO.out.2.1 (fun h => by omega)
      have hPn5 := fun hb => (hT4 PB hb).elim HO.out.2.2 (fun h => by omega)
      have hO5 := hO4.keep (w' := w4.setCell ⟨DB, 0, none⟩ (.slice (some ⟨gg, 0, none⟩) (s.length + 1) cap)) (by simp) (fun b hb => heap_setCell_other _ (fun e => hD5 (by have e2 : b = DB := e; rw [← e2]; exact hb)))
      have hch : Chg (fun b => (b = DB ∨ b = PB) ∨ T3 L U (.slice oa s.length oc) s.length b) w w4 := (Chg.of_below hb3a).grown hgrow4 (fun k hk => .inl (.inr (.inl hk)))
      have hch5 := hch.setCell (p := ⟨DB, 0, none⟩) (.inl (.inl (.inl rfl))) (.slice (some ⟨gg, 0, none⟩) (s.length + 1) cap)
      have H5 := Lib.hid (And.intro hs4 (And.intro hO5 (And.intro hD5 (And.intro hPn5 (And.intro hch5 (And.intro hT4 hP5)))))); clear hs4 hO5 hch5 hch hO4 hD5 hPn5 hT4 hP4 hP5 hF3 hF3a
      go_wp2_with fail
      go_ret
      refine ⟨rfl, _, ⟨_, _, _, _, fun b => Iff.rfl, H5.out.1, H5.out.2.2.2.2.2.2, H5.out.2.1, H5.out.2.2.1, H5.out.2.2.2.1, hne, by simp; omega⟩, H5.out.2.2.2.2.1, fun b hb => ?_⟩
      rcases hb with hb | hb
      · exact .inl (.inl hb)
      · rcases H5.out.2.2.2.2.2.1 b hb with h | h
        · exact .inl (.inr h)
        · exact .inr h
theorem fd_vis (B DB PB : Nat) (most : Int) (hm : most ≤ 1000000) {m : Mk} {t : List (List Int)} : VisG (fun s : List (List (List Int)) => (s.length : Int) < most) (DesOk m t) 186 #[.pointer (some ⟨DB, 0, none⟩), .pointer (some ⟨PB, 0, none⟩)] (visK most) (FdInv B DB PB most) := by
  refine ⟨enters_fd, ?_, ?_, ?_, ?_⟩
  · rintro s F w w' ⟨dv, vs, L, U, h1, h2, h3, h4, h5, h6, h7, h8⟩ hz hk
    exact ⟨dv, vs, L, U, h1, by rw [hk DB ((h1 DB).2 (.inl (.inl rfl)))]; exact h2, by rw [hk PB ((h1 PB).2 (.inl (.inr rfl)))]; exact h3, h4.keep hz (fun b hb => hk b ((h1 b).2 (.inr hb))), h5, h6, h7, Nat.le_trans h8 hz⟩
  · rintro s F w ⟨dv, vs, L, U, h1, h2, h3, h4, h5, h6, h7, h8⟩ b hb
    rcases (h1 b).1 hb with (rfl | rfl) | hb
    · exact lt_of_heap h2
    · exact lt_of_heap h3
    · exact (h4.lt hb).2
  · intro s design h1 h2
    have h3 : decide ((s.length : Int) + 1 < most) = true := h2
    have := of_decide_eq_true h3
    show ((s ++ [design]).length : Int) < most
    simp; omega
  · rintro s F S w v design ⟨dv, vs, L, U, h1, h2, h3, h4, h5, h6, h7, h8⟩ hV hS hP hact
    have hfew := hP.few
    refine (fd1_any v dv design s vs L U B DB PB most w hV h2 h3 h4 h5 h6 h7 h8 (by omega) (fun k hk => by have := (hfew.2 k hk).1; omega) (by omega)).mono ?_
    rintro e w' ⟨rfl, F', g1, g2, g3⟩
    exact ⟨F', rfl, g1, g2.mono (fun b hb => (h1 b).2 hb), fun b hb => by
      rcases g3 b hb with h | h
      · exact .inl ((h1 b).2 h)
      · exact .inr h⟩
/-- What the search for the first designs returns. -/
def FdRes (m : Mk) (tv : Value) (limit : Nat) (B : Nat) (r : DSt) (e : Ending) (w' : World) : Prop :=
  ∃ dv XB vs L U fv, e = .returned (.tuple #[dv, .pointer (some ⟨XB, 0, none⟩)]) ∧ w'.heap[XB]? = some (.cells (goCells m tv limit r.1 r.2.1 fv) 126 (0, 0)) ∧ Out3 B L U w' dv vs r.2.2
set_option maxRecDepth 100000 in
set_option maxHeartbeats 1000000 in
theorem firstDesigns_any {S S' : Nat → Prop} (m : Mk) (u v : Value) (t cuts : List (List Int)) (most : Int) (limit : Nat) (W : World) (h : V2 S W u t) (hc : V2 S' W v cuts) (hcp : cuts = [] → PV v) (hok : PartOk m t cuts) (hop : falseL m.c.toNat t cuts = []) (hmo : most ≤ 1000000) (hlim : limit ≤ 4000) :
    Calls Tryz.prog 119 #[.agg #[.int .i64 m.c, .int .i64 m.d, .int .i64 m.s, .int .i64 m.e, .int .i64 m.l, u], v, .int .i64 most, .int .i64 (limit : Int)] W fun e w' => FdRes m u limit W.heap.size (firstF m.c.toNat t (keysOf m) cuts most limit) e w' ∧ Below W.heap.size W w' := by
  obtain ⟨a, c, rfl, hmx⟩ := h.form
  obtain ⟨a', c', rfl, hmx'⟩ := hc.form
  have hmk := Mk.ok_iff.1 hok.fits.ok
  have hfew := hok.few
  obtain ⟨WA, hWA⟩ : ∃ WA, WA = ((((W.alloc (.cells #[.int .i64 m.c, .int .i64 m.d, .int .i64 m.s, .int .i64 m.e, .int .i64 m.l, .slice a t.length c] 28)).alloc (.cells #[.int .i64 most] 2)).alloc (.cells #[] 26)).alloc (.cells #[.slice (some ⟨W.heap.size + 1 + 1, 0, none⟩) 0 0] 54)).alloc (.cells #[.int .i64 m.c, .int .i64 m.d, .int .i64 m.s, .int .i64 m.e, .int .i64 m.l, .slice a t.length c, .int .i64 (limit : Int), .int .i64 0, .bool false, .func (.func 186) #[] #[.pointer (some ⟨W.heap.size + 1 + 1 + 1, 0, none⟩), .pointer (some ⟨W.heap.size + 1, 0, none⟩)]] 126) := ⟨_, rfl⟩
  have hbA : Below W.heap.size W WA := by rw [hWA]; exact by (repeat (first | (with_reducible refine Below.setCell ?_ ?_ _) | (with_reducible refine Below.alloc ?_ ?_ _) | (with_reducible refine Below.drew ?_) | (with_reducible refine below_drewN ?_ _) | (with_reducible exact Below.refl _ _) | (with_reducible assumption) | (with_reducible refine Below.trans ?_ (Below.mono (by with_reducible assumption) ?_)) | go_size))
  have hzA : WA.heap.size = W.heap.size + 5 := by rw [hWA]; simp
  have hA1 : WA.heap[W.heap.size + 1]? = some (.cells #[.int .i64 most] 2 (0, 0)) := by rw [hWA]; simp only [heap_alloc_at, World.size_alloc]; (repeat rw [if_neg (by omega)]); simp
  have hA2 : WA.heap[W.heap.size + 1 + 1]? = some (.cells #[] 26 (0, 0)) := by rw [hWA]; simp only [heap_alloc_at, World.size_alloc]; (repeat rw [if_neg (by omega)]); simp
  have hA3 : WA.heap[W.heap.size + 1 + 1 + 1]? = some (.cells #[.slice (some ⟨W.heap.size + 1 + 1, 0, none⟩) 0 0] 54 (0, 0)) := by rw [hWA]; simp only [heap_alloc_at, World.size_alloc]; (repeat rw [if_neg (by omega)]); simp
  have hA4 : WA.heap[W.heap.size + 1 + 1 + 1 + 1]? = some (.cells (goCells m (.slice a t.length c) limit 0 false (.func (.func 186) #[] #[.pointer (some ⟨W.heap.size + 1 + 1 + 1, 0, none⟩), .pointer (some ⟨W.heap.size + 1, 0, none⟩)])) 126 (0, 0)) := by rw [hWA]; simp only [heap_alloc_at, World.size_alloc]; simp [goCells]
  have hT0 : ∀ b, T3 (fun _ => 0) (fun _ => 0) (.slice (some ⟨W.heap.size + 1 + 1, 0, none⟩) 0 0) 0 b → b = W.heap.size + 1 + 1 := fun b hb => by
    rcases hb with e | ⟨k, hk, _⟩
    · simpa [Value.ownBlock] using e.symm
    · omega
  have hO0 : Out3 W.heap.size (fun _ => 0) (fun _ => 0) WA (.slice (some ⟨W.heap.size + 1 + 1, 0, none⟩) 0 0) [] [] :=
    ⟨⟨rfl, .inr ⟨_, 0, #[], rfl, by omega, hA2, Nat.le_refl _, Nat.zero_le _, rfl, rfl⟩⟩, fun k hk => by simp at hk, fun k hk => by simp at hk⟩
  have hI : FdInv W.heap.size (W.heap.size + 1 + 1 + 1) (W.heap.size + 1) most [] (fun b => (b = W.heap.size + 1 + 1 + 1 ∨ b = W.heap.size + 1) ∨ T3 (fun _ => 0) (fun _ => 0) (.slice (some ⟨W.heap.size + 1 + 1, 0, none⟩) 0 0) 0 b) WA :=
    ⟨_, [], _, _, fun b => Iff.rfl, hA3, hA1, hO0, fun hb => by have := hT0 _ hb; omega, fun hb => by have := hT0 _ hb; omega, by omega, by omega⟩
  have cA1 : WA.cell? ⟨W.heap.size + 1, 0, none⟩ = some (.int .i64 most) := by rw [cell_of_block hA1]; rfl
  by_cases hmp : 0 < most
  · have hfin : firstF m.c.toNat t (keysOf m) cuts most limit = (goF limit (stayP m.c.toNat t) (visK most) (keysOf m) (t.length - cuts.length) cuts (0, false, [])).1 := by unfold firstF; rw [if_pos hmp]
    rw [hfin]
    have hGs : Gs m (.slice a t.length c) limit (.func (.func 186) #[] #[.pointer (some ⟨W.heap.size + 1 + 1 + 1, 0, none⟩), .pointer (some ⟨W.heap.size + 1, 0, none⟩)]) (W.heap.size + 1 + 1 + 1 + 1) (FdInv W.heap.size (W.heap.size + 1 + 1 + 1) (W.heap.size + 1) most) (0, false, []) (fun b => (b = W.heap.size + 1 + 1 + 1 ∨ b = W.heap.size + 1) ∨ T3 (fun _ => 0) (fun _ => 0) (.slice (some ⟨W.heap.size + 1 + 1, 0, none⟩) 0 0) 0 b) WA := by
      refine ⟨hA4, hI, fun hb => ?_, fun b hb => ?_, ⟨Nat.zero_le _, hlim⟩⟩
      · rcases hb with (e | e) | hb
        · omega
        · omega
        · have := hT0 _ hb; omega
      · rcases hb with (e | e) | hb
        · omega
        · omega
        · have := hT0 _ hb; omega
    have hno : ∀ b, b < W.heap.size → ¬ GF (W.heap.size + 1 + 1 + 1 + 1) (fun b => (b = W.heap.size + 1 + 1 + 1 ∨ b = W.heap.size + 1) ∨ T3 (fun _ => 0) (fun _ => 0) (.slice (some ⟨W.heap.size + 1 + 1, 0, none⟩) 0 0) 0 b) b := fun b hb h => by
      rcases h with e | (e | e) | hb'
      · omega
      · omega
      · omega
      · have := hT0 _ hb'; omega
    have hgo := go_any (fd_vis W.heap.size (W.heap.size + 1 + 1 + 1) (W.heap.size + 1) most hmo (m := m) (t := t)) m t m.c.toNat (by omega) (fun ds h1 h2 h3 => ⟨h1, by omega⟩) limit (.slice a t.length c) (W.heap.size + 1 + 1 + 1 + 1) (t.length - cuts.length) cuts (.slice a' cuts.length c') (0, false, []) _ WA (by omega)
      ⟨hGs, h.old.mono (fun b h1 _ => hno b h1) (fun b _ h2 => hbA.block b h2), hc.old.mono (fun b h1 _ => hno b h1) (fun b _ h2 => hbA.block b h2), hcp, hok, hop, by show (([] : List (List (List Int))).length : Int) < most; simp; omega⟩
    obtain ⟨r, hr⟩ : ∃ r, goF limit (stayP m.c.toNat t) (visK most) (keysOf m) (t.length - cuts.length) cuts (0, false, []) = r := ⟨_, rfl⟩
    rw [hr] at hgo ⊢
    have hgr : decide (0 < most) = true := decide_eq_true hmp
    have HWA := Lib.hid (And.intro hWA (And.intro hgo (And.intro hbA (And.intro hT0 hr)))); clear hWA hgo hbA hO0 hI hGs hno hT0 hA1 hA2 hA3 hA4 hok hop hr
    go_enter Tryz.func119, Tryz.ntmps119
    go_wp2_with fail
    rw [← HWA.out.1]
    refine HWA.out.2.1.mono ?_
    rintro e' w' ⟨F', rfl, hG, hch, hsub⟩
    obtain ⟨dv, vs, L, U, f1, f2, f3, f4, f5, f6, f7, f8⟩ := hG.vi
    have hb' : Below W.heap.size W w' := HWA.out.2.2.1.trans (hch.to_below (B := W.heap.size) (fun b hb => by
      rcases hb with e | (e | e) | hb
      · omega
      · omega
      · omega
      · have := HWA.out.2.2.2.1 _ hb; omega) (by omega))
    have cD := cell_of_block f2 0
    simp at cD
    obtain ⟨da, dc, rfl, _, _⟩ := f4.form
    have HF := Lib.hid (And.intro hG.hh (And.intro f4 hb')); clear hG hch hsub f1 f2 f3 f4 f5 f6 hb'
    go_wp2_with fail
    go_ret2
    exact ⟨⟨_, _, _, _, _, _, rfl, HF.out.1, HF.out.2.1⟩, HF.out.2.2⟩
  · have hfin : firstF m.c.toNat t (keysOf m) cuts most limit = (0, false, []) := by unfold firstF; rw [if_neg hmp]
    rw [hfin]
    have hgr : decide (0 < most) = false := decide_eq_false hmp
    have cD : WA.cell? ⟨W.heap.size + 1 + 1 + 1, 0, none⟩ = some (.slice (some ⟨W.heap.size + 1 + 1, 0, none⟩) 0 0) := by rw [cell_of_block hA3]; rfl
    have HWA := Lib.hid (And.intro hWA (And.intro hO0 (And.intro hA4 hbA))); clear hWA hO0 hA4 hbA hI hT0 hA1 hA2 hA3 hok hop hfin
    go_enter Tryz.func119, Tryz.ntmps119
    go_wp2_with fail
    rw [← HWA.out.1]
    go_wp2_with fail
    go_ret2
    exact ⟨⟨_, _, _, _, _, _, rfl, HWA.out.2.2.1, HWA.out.2.1⟩, HWA.out.2.2.2⟩
end Go.Proofs.YtikdbjaimcciiaaGreat
