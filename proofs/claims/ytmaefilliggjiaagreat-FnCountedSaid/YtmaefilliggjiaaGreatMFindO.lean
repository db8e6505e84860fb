/- The search for a design that begins with partial cuts: the program and the reference. No conditions. -/
import Derived.OwnWalk
import Derived.Test.YtmaefilliggjiaaGreatMGoC
import Derived.Test.YtmaefilliggjiaaGreatMTightP
import Derived.Test.YtmaefilliggjiaaGreatMDraw14
namespace Go.Proofs.YtmaefilliggjiaaGreat
open Go.RowKit
set_option linter.unusedVariables false
set_option linter.unusedSimpArgs false
theorem F2.nil5 {B : Nat} {w : World} : F2 B w (.slice none 0 0) [] := ⟨0, fun _ => 0, ⟨none, 0, rfl, Nat.le_refl _, Nat.zero_le _, fun hn => absurd rfl hn, fun k hk => by simp at hk⟩, fun hn => absurd rfl hn, fun k hk => by simp at hk⟩
set_option maxRecDepth 100000 in
set_option maxHeartbeats 1000000 in
theorem FindFrom_any {S S' : Nat → Prop} (m : Mk) (u v : Value) (t cuts : List (List Int)) (limit : Int) (W : World) (h : V2 S W u t) (hc : V2 S' W v cuts) (hcp : cuts = [] → PV v) :
  Calls Tryz.prog 66 #[.agg #[.int .i64 m.c, .int .i64 m.d, .int .i64 m.s, .int .i64 m.e, .int .i64 m.l, u], v, .int .i64 limit] W fun e' w' => ∃ v', e' = .returned (.tuple #[v', .int .i64 (findAns m t cuts limit).2.1, .int .i64 (findAns m t cuts limit).2.2]) ∧ F2 W.heap.size w' v' (findAns m t cuts limit).1 ∧ Below W.heap.size W w' := by
 obtain ⟨a, c, rfl, hmx⟩ := h.form
 obtain ⟨a', c', rfl, hmx'⟩ := hc.form
 obtain ⟨W1, hW1, hB01, hz01, HZ01, hc01, hh01⟩ := box_facts W #[.int .i64 m.c, .int .i64 m.d, .int .i64 m.s, .int .i64 m.e, .int .i64 m.l, .slice a t.length c] 28
 have hV1 : V2 (fun _ => True) W1 (.slice a t.length c) t := (h.below hB01).any
 have hC1 : V2 (fun _ => True) W1 (.slice a' cuts.length c') cuts := (hc.below hB01).any
 have hsc := searchCode_any m _ _ t cuts limit W1 hV1 hC1
 by_cases hp : searchC m t cuts limit = 0
 ·obtain ⟨hok, hlim, hop⟩ := searchC_ok.1 hp
  rw [hp] at hsc
  obtain ⟨L, rfl⟩ : ∃ L : Nat, limit = (L : Int) := ⟨limit.toNat, by omega⟩
  have hfin : findAns m t cuts (L : Int) = pickA (firstF m.c.toNat t (keysOf m) cuts 1 L) := by unfold findAns; rw [if_neg (by rw [hp]; simp)]; rfl
  have hfd := fun w (hb : Below W1.heap.size W1 w) => firstDesigns_any m (.slice a t.length c) (.slice a' cuts.length c') t cuts 1 L w (hV1.below hb) (hC1.below hb) hcp hok hop (by omega) (by omega)
  obtain ⟨r, hr⟩ : ∃ r, firstF m.c.toNat t (keysOf m) cuts 1 L = r := ⟨_, rfl⟩
  rw [hfin, hr]
  simp only [hr] at hfd
  obtain ⟨r1, r2, rl⟩ := r
  have H := Lib.hid (And.intro hsc (And.intro hfd hfin)); clear hsc hfd hfin hp hok hlim hop hr
  cases rl with
  | nil =>
    cases r2
    ·skip
     go_enter Tryz.func66, Tryz.ntmps66
     go_wp2_with fail
     rw [← hW1]
     refine H.out.1.mono ?_
     rintro e' w2 ⟨rfl, hb2⟩
     have hz2 := hb2.size
     have hx2 : ∀ o, w2.cell? ⟨W.heap.size, o, none⟩ = (#[.int .i64 m.c, .int .i64 m.d, .int .i64 m.s, .int .i64 m.e, .int .i64 m.l, .slice a t.length c] : Array Value)[o]? := fun o => by rw [(bcell hb2).1 _ _ hz01, hc01]
     clear hc01 hh01
     go_wp2_with fail
     refine (H.out.2.1 _ hb2).mono ?_
     rintro e' w3 ⟨⟨dv, XB, vs, LL, UU, fv, rfl, hX, hO⟩, hb3⟩
     have hbz := hB01.trans ((hb2.trans (hb3.mono hz2)).mono (by omega))
     have cX3 : w3.cell? ⟨XB, 7, none⟩ = some (.int .i64 (r1 : Int)) := by rw [cell_of_block hX]; rfl
     have cX4 : w3.cell? ⟨XB, 8, none⟩ = some (.bool false) := by rw [cell_of_block hX]; rfl
     clear hx2
     obtain ⟨da, dc, rfl, _, _⟩ := hO.form
     clear hO
     go_wp2_with fail
     go_ret3
     exact ⟨_, rfl, F2.nil5, hbz⟩
    ·skip
     go_enter Tryz.func66, Tryz.ntmps66
     go_wp2_with fail
     rw [← hW1]
     refine H.out.1.mono ?_
     rintro e' w2 ⟨rfl, hb2⟩
     have hz2 := hb2.size
     have hx2 : ∀ o, w2.cell? ⟨W.heap.size, o, none⟩ = (#[.int .i64 m.c, .int .i64 m.d, .int .i64 m.s, .int .i64 m.e, .int .i64 m.l, .slice a t.length c] : Array Value)[o]? := fun o => by rw [(bcell hb2).1 _ _ hz01, hc01]
     clear hc01 hh01
     go_wp2_with fail
     refine (H.out.2.1 _ hb2).mono ?_
     rintro e' w3 ⟨⟨dv, XB, vs, LL, UU, fv, rfl, hX, hO⟩, hb3⟩
     have hbz := hB01.trans ((hb2.trans (hb3.mono hz2)).mono (by omega))
     have cX3 : w3.cell? ⟨XB, 7, none⟩ = some (.int .i64 (r1 : Int)) := by rw [cell_of_block hX]; rfl
     have cX4 : w3.cell? ⟨XB, 8, none⟩ = some (.bool true) := by rw [cell_of_block hX]; rfl
     clear hx2
     obtain ⟨da, dc, rfl, _, _⟩ := hO.form
     clear hO
     go_wp2_with fail
     go_ret3
     exact ⟨_, rfl, F2.nil5, hbz⟩
  | cons d ds =>
    show Calls _ _ _ _ fun e' w' => ∃ v', e' = .returned (.tuple #[v', .int .i64 (r1 : Int), .int .i64 0]) ∧ F2 W.heap.size w' v' d ∧ Below W.heap.size W w'
    go_enter Tryz.func66, Tryz.ntmps66
    go_wp2_with fail
    rw [← hW1]
    refine H.out.1.mono ?_
    rintro e' w2 ⟨rfl, hb2⟩
    have hz2 := hb2.size
    have hx2 : ∀ o, w2.cell? ⟨W.heap.size, o, none⟩ = (#[.int .i64 m.c, .int .i64 m.d, .int .i64 m.s, .int .i64 m.e, .int .i64 m.l, .slice a t.length c] : Array Value)[o]? := fun o => by rw [(bcell hb2).1 _ _ hz01, hc01]
    clear hc01 hh01
    go_wp2_with fail
    refine (H.out.2.1 _ hb2).mono ?_
    rintro e' w3 ⟨⟨dv, XB, vs, LL, UU, fv, rfl, hX, hO⟩, hb3⟩
    have hbz := hB01.trans ((hb2.trans (hb3.mono hz2)).mono (by omega))
    have cX3 : w3.cell? ⟨XB, 7, none⟩ = some (.int .i64 (r1 : Int)) := by rw [cell_of_block hX]; rfl
    have cX4 : w3.cell? ⟨XB, 8, none⟩ = some (.bool r2) := by rw [cell_of_block hX]; rfl
    clear hx2
    obtain ⟨g, cap, rfl, _, _⟩ := own_some hO.own (by simp)
    obtain ⟨rv, h1, h2⟩ := hO.each 0 (by simp)
    have hc0 : w3.cell? ⟨g, 0, none⟩ = some rv := by
     have h3 := hO.own.cells (g := g) rfl 0 rv h1
     simpa [Addr.add] using h3
    have hF : F2 W.heap.size w3 rv d := h2.f2.mono (by have := (hO.apart 0 (by simp)).1; omega)
    obtain ⟨ra, rc, rfl, _⟩ := hF.v2.form
    have HF := Lib.hid (And.intro hF hbz); clear hF h2 hO hbz
    have hdl : (0 : Int) < ((d :: ds).length : Int) := by simp
    go_wp2_with fail
    go_region
    all_goals
     go_wp2_with fail
     go_ret3
     exact ⟨_, rfl, HF.out.1.below ((Below.refl _ _).drew), HF.out.2.drew⟩
 ·have hfin : findAns m t cuts limit = ([], 0, searchC m t cuts limit) := by unfold findAns; rw [if_pos hp]
  have e1 : (searchC m t cuts limit != 0) = true := by simp [hp]
  rw [hfin]
  have H := Lib.hid (And.intro hsc hfin); clear hsc hfin hp
  generalize searchC m t cuts limit = pc at *
  go_enter Tryz.func66, Tryz.ntmps66
  go_wp2_with fail
  rw [← hW1]
  refine H.out.1.mono ?_
  rintro e' w2 ⟨rfl, hb2⟩
  have hz2 := hb2.size
  have hx2 : ∀ o, w2.cell? ⟨W.heap.size, o, none⟩ = (#[.int .i64 m.c, .int .i64 m.d, .int .i64 m.s, .int .i64 m.e, .int .i64 m.l, .slice a t.length c] : Array Value)[o]? := fun o => by rw [(bcell hb2).1 _ _ hz01, hc01]
  clear hc01 hh01
  clear hx2
  go_wp2_with fail
  go_ret3
  exact ⟨_, rfl, F2.nil5, hB01.trans (hb2.mono (by omega))⟩
set_option maxRecDepth 100000 in
set_option maxHeartbeats 1000000 in
theorem l17Run_any {S S' : Nat → Prop} (m : Mk) (u v : Value) (t cuts : List (List Int)) (most : Int) (limit : Nat) (W : World) (h : V2 S W u t) (hc : V2 S' W v cuts) (hcp : cuts = [] → PV v) (hok : PartOk m t cuts) (hmo : most ≤ 1000000) (hlim : limit ≤ 4000) :
  Calls Tryz.prog 162 #[.agg #[.int .i64 m.c, .int .i64 m.d, .int .i64 m.s, .int .i64 m.e, .int .i64 m.l, u], v, .int .i64 most, .int .i64 (limit : Int)] W fun e w' => ∃ RB fv, e = .returned (.pointer (some ⟨RB, 0, none⟩)) ∧ Sg m u limit most RB W.heap.size (firstF m.c.toNat t (keysOf m) cuts most limit) fv w' ∧ Below W.heap.size W w' := by
 obtain ⟨a, c, rfl, hmx⟩ := h.form
 obtain ⟨a', c', rfl, hmx'⟩ := hc.form
 have hmk := Mk.ok_iff.1 hok.fits.ok
 have hfew := hok.few
 obtain ⟨WA, hWA⟩ : ∃ WA, WA = (W.alloc (.cells #[.int .i64 m.c, .int .i64 m.d, .int .i64 m.s, .int .i64 m.e, .int .i64 m.l, .slice a t.length c] 28)).alloc (.cells #[.int .i64 m.c, .int .i64 m.d, .int .i64 m.s, .int .i64 m.e, .int .i64 m.l, .slice a t.length c, .int .i64 (limit : Int), .int .i64 most, .int .i64 0, .bool false, .slice none 0 0] 109) := ⟨_, rfl⟩
 have hbA : Below W.heap.size W WA := by rw [hWA]; exact by (repeat (first | (with_reducible refine Below.setCell ?_ ?_ _) | (with_reducible refine Below.alloc ?_ ?_ _) | (with_reducible refine Below.drew ?_) | (with_reducible refine below_drewN ?_ _) | (with_reducible exact Below.refl _ _) | (with_reducible assumption) | (with_reducible refine Below.trans ?_ (Below.mono (by with_reducible assumption) ?_)) | go_size))
 have hzA : WA.heap.size = W.heap.size + 2 := by rw [hWA]; simp
 have hA1 : WA.heap[W.heap.size + 1]? = some (.cells (sgCells m (.slice a t.length c) (.slice none 0 0) limit most (0, false, [])) 109 (0, 0)) := by rw [hWA]; simp only [heap_alloc_at, World.size_alloc]; simp [sgCells]
 have hSg : Sg m (.slice a t.length c) limit most (W.heap.size + 1) W.heap.size (0, false, []) (.slice none 0 0) WA :=
  ⟨hA1, ⟨[], ⟨rfl, .inl ⟨rfl, rfl⟩⟩, fun k hk => by simp at hk⟩, by simp [Value.ownBlock], ⟨Nat.zero_le _, hlim⟩, by omega⟩
 have hno : ∀ b, b < W.heap.size → ¬ RG (W.heap.size + 1) (.slice none 0 0) b := fun b hb h => by
  rcases h with h | h
  ·omega
  ·simp [Value.ownBlock] at h
 by_cases hmp : 0 < most
 ·have hfin : firstF m.c.toNat t (keysOf m) cuts most limit = (goF limit (stayP m.c.toNat t) (visK most) (keysOf m) (t.length - cuts.length) cuts (0, false, [])).1 := by unfold firstF; rw [if_pos hmp]
  rw [hfin]
  have hgo := l17From_any m t m.c.toNat (by omega) (.slice a t.length c) limit most hmo (W.heap.size + 1) W.heap.size (t.length - cuts.length) cuts (.slice a' cuts.length c') (0, false, []) (.slice none 0 0) WA (by omega)
   ⟨hSg, h.old.mono (fun b h1 _ => hno b h1) (fun b _ h2 => hbA.block b h2), hc.old.mono (fun b h1 _ => hno b h1) (fun b _ h2 => hbA.block b h2), hcp, hok, by show (([] : List (List (List Int))).length : Int) < most; simp; omega⟩
  obtain ⟨r, hr⟩ : ∃ r, goF limit (stayP m.c.toNat t) (visK most) (keysOf m) (t.length - cuts.length) cuts (0, false, []) = r := ⟨_, rfl⟩
  rw [hr] at hgo ⊢
  have hgr : decide (0 < most) = true := decide_eq_true hmp
  have HWA := Lib.hid (And.intro hWA (And.intro hgo (And.intro hbA (And.intro hr hok)))); clear hWA hgo hbA hSg hno hA1 hok hr hfin
  go_enter Tryz.func162, Tryz.ntmps162
  go_wp2_with fail
  rw [← HWA.out.1]
  refine HWA.out.2.1.mono ?_
  rintro e' w' ⟨fv, rfl, hG, hch, hsub⟩
  have hb' : Below W.heap.size W w' := HWA.out.2.2.1.trans (hch.to_below (B := W.heap.size) (fun b hb => by
   rcases hb with e | e
   ·omega
   ·simp [Value.ownBlock] at e) (by omega))
  have HF := Lib.hid (And.intro hG hb'); clear hG hch hsub hb'
  go_wp2_with fail
  go_ret
  exact ⟨_, fv, rfl, HF.out.1, HF.out.2⟩
 ·have hfin : firstF m.c.toNat t (keysOf m) cuts most limit = (0, false, []) := by unfold firstF; rw [if_neg hmp]
  rw [hfin]
  have hgr : decide (0 < most) = false := decide_eq_false hmp
  have HWA := Lib.hid (And.intro hWA (And.intro hSg hbA)); clear hWA hSg hbA hno hA1 hok hfin
  go_enter Tryz.func162, Tryz.ntmps162
  go_wp2_with fail
  rw [← HWA.out.1]
  go_ret
  exact ⟨_, rfl, ⟨_, HWA.out.2.1⟩, HWA.out.2.2⟩
theorem partC_nil {m : Mk} {t : List (List Int)} : partC m t [] = if isSys m t = false then 1 else 0 := by
 unfold partC
 have h1 : allKeys m [] = true := allKeys_iff.2 fun k hk => by simp at hk
 rw [h1]
 simp
theorem searchC_nil {m : Mk} {t : List (List Int)} {limit : Int} : searchC m t [] limit = if isSys m t = false then 1 else if inB limit 0 4000 = false then 2 else 0 := by
 have hf : (falseL m.c.toNat t []).length = 0 := rfl
 unfold searchC
 rw [partC_nil]
 cases hs : isSys m t
 ·simp
 ·cases hi : inB limit 0 4000
  ·have h1 : ¬ (0 ≤ limit ∧ limit ≤ 4000) := fun h => by rw [inB_iff.2 h] at hi; cases hi
   simp [h1]
  ·have h1 := inB_iff.1 hi
   simp [h1, hf]
set_option maxRecDepth 100000 in
theorem l17Code_any {S : Nat → Prop} (m : Mk) (u : Value) (t : List (List Int)) (limit : Int) (W : World) (h : V2 S W u t) :
  Calls Tryz.prog 161 #[.agg #[.int .i64 m.c, .int .i64 m.d, .int .i64 m.s, .int .i64 m.e, .int .i64 m.l, u], .int .i64 limit] W fun e' w' => e' = .returned (.int .i64 (searchC m t [] limit)) ∧ Below W.heap.size W w' := by
 obtain ⟨a, c, rfl, hmx⟩ := h.form
 obtain ⟨W1, hW1, hB01, hz01, HZ01, hc01, hh01⟩ := box_facts W #[.int .i64 m.c, .int .i64 m.d, .int .i64 m.s, .int .i64 m.e, .int .i64 m.l, .slice a t.length c] 28
 have hV1 : V2 (fun _ => True) W1 (.slice a t.length c) t := (h.below hB01).any
 rw [searchC_nil]
 cases hs : isSys m t
 ·have Hs := Lib.hid hs; clear hs
  go_enter Tryz.func161, Tryz.ntmps161
  go_wp2_with fail
  rw [← hW1]
  refine (isSystemR_b m _ t _ _ Hs.out hV1).mono ?_
  rintro e' w2 ⟨rfl, hb2⟩
  clear hc01 hh01
  go_wp2_with fail
  go_ret
  exact ⟨rfl, hB01.trans (hb2.mono (by omega))⟩
 ·have Hs := Lib.hid hs; clear hs
  cases hi : inB limit 0 4000
  ·have Hi := Lib.hid hi; clear hi
   go_enter Tryz.func161, Tryz.ntmps161
   go_wp2_with fail
   rw [← hW1]
   refine (isSystemR_b m _ t _ _ Hs.out hV1).mono ?_
   rintro e' w2 ⟨rfl, hb2⟩
   clear hc01 hh01
   go_wp2_with (go_at_call 103; refine (l01In_b _ _ _ _ _ Hi.out).mono ?_; rintro e' w' ⟨rfl, rfl⟩)
   go_ret
   exact ⟨rfl, hB01.trans (hb2.mono (by omega))⟩
  ·have Hi := Lib.hid hi; clear hi
   go_enter Tryz.func161, Tryz.ntmps161
   go_wp2_with fail
   rw [← hW1]
   refine (isSystemR_b m _ t _ _ Hs.out hV1).mono ?_
   rintro e' w2 ⟨rfl, hb2⟩
   clear hc01 hh01
   go_wp2_with (go_at_call 103; refine (l01In_b _ _ _ _ _ Hi.out).mono ?_; rintro e' w' ⟨rfl, rfl⟩)
   go_ret
   exact ⟨rfl, hB01.trans (hb2.mono (by omega))⟩
set_option maxRecDepth 100000 in
set_option maxHeartbeats 4000000 in
theorem l17DrawLimit_any (B0 SB : Nat) (W : World) (h : Src B0 SB W) :
  Calls Tryz.prog 165 #[.pointer (some ⟨SB, 0, none⟩)] W fun e w' => ∃ x : Int, e = .returned (.int .i64 x) ∧ Src B0 SB w' ∧ Only SB W w' := by
 have hSl := h.lt
 have HL := Lib.hid h; clear h
 go_enter Tryz.func165, Tryz.ntmps165
 go_wp2_with fail
 refine (l01Next_any B0 SB 16 _ HL.out).mono ?_
 rintro e' w2 ⟨x, rfl, ⟨hx0, hx1⟩, hs2, ho2⟩
 have hz2 := ho2.size
 have H2 := Lib.hid (And.intro hs2 ho2); clear hs2 ho2
 by_cases hx : x = 0
 ·subst hx
  clear hx0 hx1
  obtain ⟨wa, hwa⟩ : ∃ wa, wa = w2.alloc (.cells #[.int .i64 (-1), .int .i64 0, .int .i64 4001] 2) := ⟨_, rfl⟩
  have hbi : Below w2.heap.size w2 wa := by rw [hwa]; exact (Below.refl w2.heap.size w2).alloc (Nat.le_refl _) _
  have hL : V1 (fun b => b = w2.heap.size) wa (.slice (some ⟨w2.heap.size, 0, none⟩) 3 3) [-1, 0, 4001] := by rw [hwa]; exact lit_V1 w2 2 [-1, 0, 4001] (by simp)
  have HA := Lib.hid (And.intro (H2.out.1.below hbi) (And.intro (H2.out.2.then_below hbi) (And.intro hL hwa))); clear hbi hwa hL
  go_wp2_with fail
  rw [← HA.out.2.2.2]
  refine (l01Pick_any B0 SB _ [-1, 0, 4001] wa HA.out.1 HA.out.2.2.1 (fun b hb => by omega) (by simp)).mono ?_
  rintro e' wb ⟨y, rfl, _, hsb, hob⟩
  have HB := Lib.hid (And.intro hsb (HA.out.2.1.trans hob)); clear hsb hob
  go_wp2_with fail
  go_ret
  exact ⟨_, rfl, HB.out.1, HB.out.2⟩
 ·have hxd : (x == 0) = false := by simp [hx]
  clear hx hx0 hx1
  go_wp2_with fail
  refine (l01Next_any B0 SB 40 _ H2.out.1).mono ?_
  rintro e' w3 ⟨z, rfl, ⟨hz0, hz1⟩, hs3, ho3⟩
  have hz3 := ho3.size
  have hw1 : wrap64 (1 + z) = 1 + z := IntWalk.wrap64_in _ (by omega)
  have H3 := Lib.hid (And.intro hs3 (H2.out.2.trans ho3)); clear hs3 ho3
  obtain ⟨wa, hwa⟩ : ∃ wa, wa = w3.alloc (.cells #[.int .i64 (1 + z), .int .i64 200, .int .i64 600, .int .i64 1500] 2) := ⟨_, rfl⟩
  have hbi : Below w3.heap.size w3 wa := by rw [hwa]; exact (Below.refl w3.heap.size w3).alloc (Nat.le_refl _) _
  have hL : V1 (fun b => b = w3.heap.size) wa (.slice (some ⟨w3.heap.size, 0, none⟩) 4 4) [1 + z, 200, 600, 1500] := by rw [hwa]; exact lit_V1 w3 2 [1 + z, 200, 600, 1500] (by simp)
  have HA := Lib.hid (And.intro (H3.out.1.below hbi) (And.intro (H3.out.2.then_below hbi) (And.intro hL hwa))); clear hbi hwa hL
  go_wp2_with fail
  rw [← HA.out.2.2.2]
  refine (l01Pick_any B0 SB _ [1 + z, 200, 600, 1500] wa HA.out.1 HA.out.2.2.1 (fun b hb => by omega) (by simp)).mono ?_
  rintro e' wb ⟨y, rfl, _, hsb, hob⟩
  have HB := Lib.hid (And.intro hsb (HA.out.2.1.trans hob)); clear hsb hob
  go_wp2_with fail
  go_ret
  exact ⟨_, rfl, HB.out.1, HB.out.2⟩
/-- A system in a box of its own, while more is drawn. -/
structure DrAt (B0 SB : Nat) (W W1 w3 : World) (m : Mk) (tv : Value) (T : List (List Int)) (w : World) : Prop where
 src : Src B0 SB w
 only : Only SB W w
 hm : w.heap[w3.heap.size]? = some (.cells #[.int .i64 m.c, .int .i64 m.d, .int .i64 m.s, .int .i64 m.e, .int .i64 m.l, tv] 28 (0, 0))
 hr : w.heap[W.heap.size]? = some (.cells #[.int .i64 0, .int .i64 0, .int .i64 0, .int .i64 0, .int .i64 0, .slice none 0 0] 28 (0, 0))
 tab : V2 (fun b => W1.heap.size ≤ b ∧ b < w3.heap.size) w tv T
theorem DrAt.step {B0 SB : Nat} {W W1 w3 w w' : World} {m : Mk} {tv : Value} {T : List (List Int)} (h : DrAt B0 SB W W1 w3 m tv T w) (hs : Src B0 SB w') (ho : Only SB w w') (h1 : SB < W.heap.size) (h2 : SB < W1.heap.size) (h3 : SB < w3.heap.size) : DrAt B0 SB W W1 w3 m tv T w' :=
 ⟨hs, h.only.trans ho, ho.heap h.hm (fun e => by omega), ho.heap h.hr (fun e => by omega), h.tab.mono (fun _ h _ => h) (fun b hb hlt => ho.block b hlt (fun e => by have := hb.1; omega))⟩
theorem putS_new {W w : World} {c0 c1 c2 c3 c4 c5 : Value} (hB : Below W.heap.size W w) (h : w.heap[W.heap.size]? = some (.cells #[c0, c1, c2, c3, c4, c5] 28 (0, 0))) (v0 v1 v2 v3 v4 v5 : Value) :
  Below W.heap.size W (putS w W.heap.size v0 v1 v2 v3 v4 v5) ∧ (putS w W.heap.size v0 v1 v2 v3 v4 v5).heap[W.heap.size]? = some (.cells #[v0, v1, v2, v3, v4, v5] 28 (0, 0)) ∧ ∀ b, b ≠ W.heap.size → (putS w W.heap.size v0 v1 v2 v3 v4 v5).heap[b]? = w.heap[b]? := by
 refine ⟨?_, ?_, fun b hb => ?_⟩
 ·unfold putS putR
  exact ((((((hB.setCell (Nat.le_refl _) _).setCell (Nat.le_refl _) _).setCell (Nat.le_refl _) _).setCell (Nat.le_refl _) _).setCell (Nat.le_refl _) _).setCell (Nat.le_refl _) _)
 ·unfold putS putR
  rw [heap_setCell_self (heap_setCell_self (heap_setCell_self (heap_setCell_self (heap_setCell_self (heap_setCell_self h _) _) _) _) _) _]
  simp
 ·unfold putS putR
  (repeat rw [heap_setCell_other _ hb])
theorem VB.below {S : Nat → Prop} {w w' : World} {v : Value} {l : List Int} (h : VB S w v l) (hb : Below w.heap.size w w') : VB S w' v l :=
 h.mono (fun _ h _ => h) (Below.keep hb fun _ _ h => h)
theorem Only.to_below {SB B : Nat} {a b : World} (h : Only SB a b) (hS : B ≤ SB) (hB : B ≤ a.heap.size) : Below B a b := Chg.to_below h (fun i hi => by omega) hB
/-- What a draw of a system and cuts from a code answers; X: what stands beside them. -/
def DrawC (W : World) (X : Mk → List (List Int) → List (List Int) → World → List Value → Prop) (e : Ending) (w' : World) : Prop :=
 ∃ (m : Mk) (u cv : Value) (T cuts : List (List Int)) (vs : List Value), e = .returned (.tuple (#[.agg #[.int .i64 m.c, .int .i64 m.d, .int .i64 m.s, .int .i64 m.e, .int .i64 m.l, u], cv] ++ vs.toArray)) ∧ X m T cuts w' vs ∧ V2 (fun b => W.heap.size ≤ b) w' u T ∧ V2 (fun b => W.heap.size ≤ b) w' cv cuts ∧ Below W.heap.size W w'
def DrawC2 (W : World) : Ending → World → Prop := DrawC W fun _ _ _ _ vs => vs = []
theorem DrawC2.open {W w' : World} {e : Ending} (h : DrawC2 W e w') : ∃ (m : Mk) (u cv : Value) (T cuts : List (List Int)), e = .returned (.tuple #[.agg #[.int .i64 m.c, .int .i64 m.d, .int .i64 m.s, .int .i64 m.e, .int .i64 m.l, u], cv]) ∧ V2 (fun b => W.heap.size ≤ b) w' u T ∧ V2 (fun b => W.heap.size ≤ b) w' cv cuts ∧ Below W.heap.size W w' := by
 obtain ⟨m, u, cv, T, cuts, vs, rfl, rfl, h1, h2, h3⟩ := h
 exact ⟨m, u, cv, T, cuts, rfl, h1, h2, h3⟩
def DrawCi (W : World) : Ending → World → Prop := DrawC W fun _ _ _ _ vs => ∃ n : Int, vs = [.int .i64 n]
def DrawCk (W : World) : Ending → World → Prop := DrawC W fun _ _ _ w' vs => ∃ kv key, vs = [kv] ∧ V1 (fun b => W.heap.size ≤ b) w' kv key
def DrawCkw (W : World) : Ending → World → Prop := DrawC W fun _ _ _ w' vs => ∃ kv key x y, vs = [kv, .int .i64 x, .int .i64 y] ∧ V1 (fun b => W.heap.size ≤ b) w' kv key
theorem DrawCi.open {W w' : World} {e : Ending} (h : DrawCi W e w') : ∃ (m : Mk) (u cv : Value) (T cuts : List (List Int)) (n : Int), e = .returned (.tuple #[.agg #[.int .i64 m.c, .int .i64 m.d, .int .i64 m.s, .int .i64 m.e, .int .i64 m.l, u], cv, .int .i64 n]) ∧ V2 (fun b => W.heap.size ≤ b) w' u T ∧ V2 (fun b => W.heap.size ≤ b) w' cv cuts ∧ Below W.heap.size W w' := by
 obtain ⟨m, u, cv, T, cuts, vs, rfl, ⟨n, rfl⟩, h1, h2, h3⟩ := h
 exact ⟨m, u, cv, T, cuts, n, rfl, h1, h2, h3⟩
theorem DrawCk.open {W w' : World} {e : Ending} (h : DrawCk W e w') : ∃ (m : Mk) (u cv : Value) (T cuts : List (List Int)) (kv : Value) (key : List Int), e = .returned (.tuple #[.agg #[.int .i64 m.c, .int .i64 m.d, .int .i64 m.s, .int .i64 m.e, .int .i64 m.l, u], cv, kv]) ∧ V1 (fun b => W.heap.size ≤ b) w' kv key ∧ V2 (fun b => W.heap.size ≤ b) w' u T ∧ V2 (fun b => W.heap.size ≤ b) w' cv cuts ∧ Below W.heap.size W w' := by
 obtain ⟨m, u, cv, T, cuts, vs, rfl, ⟨kv, key, rfl, h0⟩, h1, h2, h3⟩ := h
 exact ⟨m, u, cv, T, cuts, kv, key, rfl, h0, h1, h2, h3⟩
theorem DrawCkw.open {W w' : World} {e : Ending} (h : DrawCkw W e w') : ∃ (m : Mk) (u cv : Value) (T cuts : List (List Int)) (kv : Value) (key : List Int) (x y : Int), e = .returned (.tuple #[.agg #[.int .i64 m.c, .int .i64 m.d, .int .i64 m.s, .int .i64 m.e, .int .i64 m.l, u], cv, kv, .int .i64 x, .int .i64 y]) ∧ V1 (fun b => W.heap.size ≤ b) w' kv key ∧ V2 (fun b => W.heap.size ≤ b) w' u T ∧ V2 (fun b => W.heap.size ≤ b) w' cv cuts ∧ Below W.heap.size W w' := by
 obtain ⟨m, u, cv, T, cuts, vs, rfl, ⟨kv, key, x, y, rfl, h0⟩, h1, h2, h3⟩ := h
 exact ⟨m, u, cv, T, cuts, kv, key, x, y, rfl, h0, h1, h2, h3⟩
def nextDAns (m : Mk) (t cuts : List (List Int)) (limit : Int) : List (List Int) × Int :=
 if searchC m t cuts limit ≠ 0 then ([], searchC m t cuts limit) else if cuts.length < t.length then ([], 5)
 else ((pickA (nextF m m.c.toNat t cuts limit.toNat cuts.length (0, false, []))).1, (pickA (nextF m m.c.toNat t cuts limit.toNat cuts.length (0, false, []))).2.2)
/-! ### The beginning of open cuts is open -/
theorem doorCuts_step (t cuts : List (List Int)) (d k : Nat) : doorCuts t cuts d (k + 1) = if geti (getl t k) d = 1 then doorCuts t cuts d k ++ [getl cuts k] else doorCuts t cuts d k := rfl
theorem doorCuts_take {t cuts : List (List Int)} {d r : Nat} : ∀ {k : Nat}, k ≤ r → doorCuts t (cuts.take r) d k = doorCuts t cuts d k
 | 0, _ => rfl
 | k + 1, h => by rw [doorCuts_step, doorCuts_step, doorCuts_take (by omega), getl_take (by omega)]
theorem doorCuts_mono {t cuts : List (List Int)} {d k : Nat} {x : List Int} (h : x ∈ doorCuts t cuts d k) : ∀ j, x ∈ doorCuts t cuts d (k + j)
 | 0 => h
 | j + 1 => by
   have h1 := doorCuts_mono h j
   show x ∈ doorCuts t cuts d ((k + j) + 1)
   rw [doorCuts_step]
   split
   ·exact List.mem_append.2 (.inl h1)
   ·exact h1
theorem open_take {n : Nat} {t cuts : List (List Int)} {r : Nat} (hlc : ∀ k, k < cuts.length → (getl cuts k).length = n) (h : falseL n t cuts = []) : falseL n t (cuts.take r) = [] := by
 refine List.eq_nil_iff_forall_not_mem.2 fun x hx => ?_
 obtain ⟨i, d, hi, hd, rfl, ha, ho⟩ := mem_falseRows.1 hx
 rw [List.length_take] at hi
 rw [locksTo_get hd] at ho
 have h1 : [(i : Int), (d : Int)] ∈ falseL n t cuts := mem_falseRows.2 ⟨i, d, by omega, hd, rfl, ha, by
  rw [locksTo_get hd]
  rw [getl_take (by omega)] at ho
  rw [opensB_iff] at ho ⊢
  intro c hc
  have hcn : c < n := by rw [← hlc i (by omega)]; exact hc
  obtain ⟨k, hk, e⟩ := (mem_lock hcn).1 (ho c hc)
  refine (mem_lock hcn).2 ⟨k, ?_, e⟩
  rw [doorCuts_take (by rw [List.length_take]; omega)] at hk
  have h2 := doorCuts_mono hk (cuts.length - (cuts.take r).length)
  rw [show (cuts.take r).length + (cuts.length - (cuts.take r).length) = cuts.length by rw [List.length_take]; omega] at h2
  exact h2⟩
 rw [h] at h1
 cases h1
theorem PartOk.take {m : Mk} {t cuts : List (List Int)} (h : PartOk m t cuts) (r : Nat) : PartOk m t (cuts.take r) := by
 have hf := h.few
 refine ⟨h.sys, by rw [List.length_take]; omega, allKeys_iff.2 fun k hk => ?_⟩
 rw [List.length_take] at hk
 rw [getl_take (by omega)]
 exact allKeys_iff.1 h.keys k (by omega)
/-- If the limit was met, nothing is found. -/
def exK (s : DSt) : Prop := s.2.1 = true → s.2.2 = []
theorem actK.ex {s : DSt} (h : actK s) : exK s := fun _ => h.2
theorem runL_exK {f : DSt → List Int → DSt × Bool} (ha : ∀ s k, actK s → ((f s k).2 = true ↔ actK (f s k).1)) (hf : ∀ s k, actK s → exK (f s k).1) : ∀ (l : List (List Int)) (s : DSt), actK s → exK (runL f s l).1
 | [], s, h => h.ex
 | k :: l, s, h => by
   unfold runL
   by_cases hk : (f s k).2 = true
   ·rw [if_pos hk]; exact runL_exK ha hf l _ ((ha s k h).1 hk)
   ·rw [if_neg hk]; exact hf s k h
theorem goStep_exK {limit : Nat} {stay : List (List Int) → List Int → Bool} {rec : List (List Int) → DSt → DSt × Bool} (hr : ∀ c s, actK s → exK (rec c s).1) {cuts : List (List Int)} {s : DSt} {key : List Int} (h : actK s) : exK (goStep limit stay rec cuts s key).1 := by
 unfold goStep
 split
 ·exact fun _ => h.2
 ·split
  ·exact hr _ _ h
  ·exact fun h2 => by have h3 : s.2.1 = true := h2; rw [h.1] at h3; cases h3
theorem goF_exK {limit : Nat} {stay : List (List Int) → List Int → Bool} {keys : List (List Int)} : ∀ {d : Nat} {cuts : List (List Int)} {s : DSt}, actK s → exK (goF limit stay (visK 1) keys d cuts s).1
 | 0, cuts, s, h => fun h2 => by have h3 : s.2.1 = true := h2; rw [h.1] at h3; cases h3
 | d + 1, cuts, s, h => runL_exK (fun s k hs => goStep_actK (fun c s hs => goF_actK hs) hs) (fun s k hs => goStep_exK (fun c s hs => goF_exK hs) hs) keys s h
theorem backF_exK {m : Mk} {n : Nat} {t cuts : List (List Int)} {limit row : Nat} {s : DSt} (h : actK s) : exK (backF m n t cuts limit row s).1 :=
 runL_exK (fun s k hs => goStep_actK (fun c s hs => goF_actK hs) hs) (fun s k hs => goStep_exK (fun c s hs => goF_exK hs) hs) _ s h
/-- Going back row by row: where the walk stands. -/
def NextAt (m : Mk) (n : Nat) (t cuts : List (List Int)) (limit : Nat) (res : DSt) (r : Nat) (s : DSt) : Prop :=
 (actK s ∧ res = nextF m n t cuts limit r s) ∨ (¬ actK s ∧ res = s)
theorem NextAt.step {m : Mk} {n : Nat} {t cuts : List (List Int)} {limit : Nat} {res : DSt} {r : Nat} {s : DSt} (h : NextAt m n t cuts limit res (r + 1) s) (ha : actK s) : NextAt m n t cuts limit res r (backF m n t cuts limit r s).1 := by
 rcases h with ⟨_, h⟩ | ⟨h, _⟩
 ·have h1 := backF_actK (m := m) (n := n) (t := t) (cuts := cuts) (limit := limit) (row := r) ha
  unfold nextF at h
  by_cases hb : (backF m n t cuts limit r s).2 = true
  ·rw [if_pos hb] at h
   exact .inl ⟨h1.1 hb, h⟩
  ·rw [if_neg hb] at h
   exact .inr ⟨fun hh => hb (h1.2 hh), h⟩
 ·exact absurd ha h
theorem NextAt.last {m : Mk} {n : Nat} {t cuts : List (List Int)} {limit : Nat} {res : DSt} {s : DSt} (h : NextAt m n t cuts limit res 0 s) : res = s := by
 rcases h with ⟨_, h⟩ | ⟨_, h⟩ <;> exact h
theorem NextAt.stop {m : Mk} {n : Nat} {t cuts : List (List Int)} {limit : Nat} {res : DSt} {r : Nat} {s : DSt} (h : NextAt m n t cuts limit res r s) (hn : ¬ actK s) : res = s := by
 rcases h with ⟨h, _⟩ | ⟨_, h⟩
 ·exact absurd h hn
 ·exact h
/-- What a draw of a system and a number from a code answers. -/
def DrawFi (W : World) (e : Ending) (w' : World) : Prop :=
 ∃ (m : Mk) (u : Value) (T : List (List Int)) (n : Int), e = .returned (.tuple #[.agg #[.int .i64 m.c, .int .i64 m.d, .int .i64 m.s, .int .i64 m.e, .int .i64 m.l, u], .int .i64 n]) ∧ V2 (fun b => W.heap.size ≤ b) w' u T ∧ Below W.heap.size W w'
set_option maxRecDepth 100000 in
set_option maxHeartbeats 2000000 in
theorem DrawFindDesign_any {S : Nat → Prop} (v : Value) (l : List Int) (W : World) (h : VB S W v l) :
  Calls Tryz.prog 63 #[v] W (DrawFi W) := by
 obtain ⟨a, c, rfl, hm⟩ := h.form
 obtain ⟨W1, hW1, hB01, hz01, HZ01, _, hh01⟩ := box_facts W #[.int .i64 0, .int .i64 0, .int .i64 0, .int .i64 0, .int .i64 0, .slice none 0 0] 28
 have hz1e := HZ01.out
 have hz1l : W1.heap.size ≤ W.heap.size + 1 := by omega
 have HL := Lib.hid (And.intro (h.below hB01) (And.intro hB01 (And.intro hh01 hW1))); clear h hh01 hB01 hz1e
 go_enter Tryz.func63, Tryz.ntmps63
 go_wp2_with fail
 rw [← HL.out.2.2.2]
 clear hW1
 refine (l01From_any _ l W1 HL.out.1).mono ?_
 rintro e' w2 ⟨rfl, hs2, hb2⟩
 have hz2 := hb2.size
 have H2 := Lib.hid (And.intro hs2 (And.intro hb2 ((hb2.block _ hz01).trans HL.out.2.2.1))); clear hs2 hb2
 go_wp2_with fail
 refine (l17Draw_any W1.heap.size W1.heap.size w2 H2.out.1).mono ?_
 rintro e' w3 ⟨m, u, T, rfl, hsm, hu, hT12, hs3, ho3⟩
 have hz3 := ho3.size
 have hz23 : W1.heap.size < w2.heap.size := H2.out.1.lt
 obtain ⟨ta, tc, rfl, _⟩ := hu.form
 have hRw := ho3.heap H2.out.2.2 (fun e => by omega)
 have hBw : Below W.heap.size W w3 := HL.out.2.1.trans ((H2.out.2.1.trans (ho3.to_below (Nat.le_refl _) (by omega))).mono (by omega))
 obtain ⟨w4, hw4⟩ : ∃ w4, w4 = w3.alloc (.cells #[.int .i64 m.c, .int .i64 m.d, .int .i64 m.s, .int .i64 m.e, .int .i64 m.l, .slice ta T.length tc] 28) := ⟨_, rfl⟩
 have hb34 : Below w3.heap.size w3 w4 := by rw [hw4]; exact (Below.refl _ _).alloc (Nat.le_refl _) _
 have hM4 : w4.heap[w3.heap.size]? = some (.cells #[.int .i64 m.c, .int .i64 m.d, .int .i64 m.s, .int .i64 m.e, .int .i64 m.l, .slice ta T.length tc] 28 (0, 0)) := by rw [hw4]; exact heap_alloc_self _ _
 have hz4 : w3.heap.size < w4.heap.size := lt_of_heap hM4
 have H4 := Lib.hid (And.intro (hs3.below hb34) (And.intro (hBw.trans (hb34.mono (by omega))) (And.intro hM4 (And.intro ((hb34.block _ (by omega)).trans hRw) (And.intro (hu.below hb34) hw4))))); clear hs3 ho3 hRw hBw hb34 hM4 hu hsm hw4 hT12
 have hcM : ∀ o, w4.cell? ⟨w3.heap.size, o, none⟩ = (#[.int .i64 m.c, .int .i64 m.d, .int .i64 m.s, .int .i64 m.e, .int .i64 m.l, .slice ta T.length tc] : Array Value)[o]? := fun o => by rw [cell_of_block H4.out.2.2.1]
 have hSk : ∀ w' : World, w'.heap[w3.heap.size]? = w4.heap[w3.heap.size]? → w'.cell? ⟨w3.heap.size, 0, none⟩ = some (.int .i64 m.c) ∧ w'.cell? ⟨w3.heap.size, 1, none⟩ = some (.int .i64 m.d) ∧ w'.cell? ⟨w3.heap.size, 2, none⟩ = some (.int .i64 m.s) ∧ w'.cell? ⟨w3.heap.size, 3, none⟩ = some (.int .i64 m.e) ∧ w'.cell? ⟨w3.heap.size, 4, none⟩ = some (.int .i64 m.l) ∧ w'.cell? ⟨w3.heap.size, 5, none⟩ = some (.slice ta T.length tc) := fun w' hw => by
  refine ⟨?_, ?_, ?_, ?_, ?_, ?_⟩ <;> exact cell_keep (hcM _) hw
 go_wp2_with fail
 rw [← H4.out.2.2.2.2.2]
 refine wp_region_noPanic ?_
 refine wp_region_held_drew (S := fun w' => w'.cell? ⟨w3.heap.size, 0, none⟩ = some (.int .i64 m.c) ∧ w'.cell? ⟨w3.heap.size, 1, none⟩ = some (.int .i64 m.d) ∧ w'.cell? ⟨w3.heap.size, 2, none⟩ = some (.int .i64 m.s) ∧ w'.cell? ⟨w3.heap.size, 3, none⟩ = some (.int .i64 m.e) ∧ w'.cell? ⟨w3.heap.size, 4, none⟩ = some (.int .i64 m.l) ∧ w'.cell? ⟨w3.heap.size, 5, none⟩ = some (.slice ta T.length tc)) (by kernel_rfl) (hSk w4.drew rfl) (fun hHeld => ?_)
 (refine wpAnyH_take (i := 0) (v := .agg #[.int .i64 m.c, .int .i64 m.d, .int .i64 m.s, .int .i64 m.e, .int .i64 m.l, .slice ta T.length tc]) rfl (by kernel_rfl) (by kernel_rfl) (by kernel_rfl) (fun _ _ _ h => h) (Or.inl ⟨by kernel_rfl, fun w hSw => by (try dsimp only at hSw); go_split_ands; go_simp⟩) (by assumption) ?_; simp only [Act.put, List.setIfInBounds_toArray, List.set_cons_zero, List.set_cons_succ])
 (refine wpAnyH_take (i := 1) (v := .pointer (some ⟨W1.heap.size, 0, none⟩)) rfl (by kernel_rfl) (by kernel_rfl) (by kernel_rfl) (fun _ _ _ h => h) (Or.inl ⟨by kernel_rfl, fun w hSw => by (try dsimp only at hSw); go_split_ands; go_simp⟩) (by assumption) ?_; simp only [Act.put, List.setIfInBounds_toArray, List.set_cons_zero, List.set_cons_succ])
 have hbD : Below w4.heap.size w4 w4.drew := (Below.refl _ _).drew
 refine wpAnyH_ready (rs := [2]) (by kernel_rfl) (by simp) (AllReadyH.cons rfl (fun K hK => ?_) AllReadyH.nil)
 go_simp
 go_at_call 165
 refine (l17DrawLimit_any W1.heap.size W1.heap.size _ (H4.out.1.below hbD)).mono ?_
 rintro e' wb ⟨x, rfl, hsb, hob⟩
 have hob4 : Only W1.heap.size w4 wb := (Only.of_below hbD).trans hob
 have hzb := hob4.size
 have hMb : wb.heap[w3.heap.size]? = w4.heap[w3.heap.size]? := hob4.block _ (by omega) (fun e => by omega)
 have hBb : Below W.heap.size W wb := H4.out.2.1.trans ((hob4.to_below (B := W1.heap.size) (Nat.le_refl _) (by omega)).mono (by omega))
 have hRb := hob4.heap H4.out.2.2.2.1 (fun e => by omega)
 have hub := H4.out.2.2.2.2.1.mono (S' := fun b => W1.heap.size ≤ b) (fun b hb _ => by have hb : w2.heap.size ≤ b := hb; omega) (hob4.keep fun b hb e => by have hb : w2.heap.size ≤ b := hb; omega)
 have hC := Lib.hid (And.intro hBb (And.intro hRb (And.intro hub hMb))); clear hBb hRb hub hcM hsb hob hbD hob4
 dsimp only
 (refine hK.out _ _ (hSk wb hMb) (fun hHeld => ?_); clear hK K; (try simp only [Act.put, List.setIfInBounds_toArray, List.set_cons_zero, List.set_cons_succ]))
 have hcRz : ∀ o, wb.cell? ⟨W.heap.size, o, none⟩ = (#[.int .i64 0, .int .i64 0, .int .i64 0, .int .i64 0, .int .i64 0, .slice none 0 0] : Array Value)[o]? := fun o => by rw [cell_of_block hC.out.2.1]
 have hfRz := fun o => frozen_of_block hC.out.2.1 o
 (refine wpAnyH_ready (rs := [3]) (by kernel_rfl) (by simp) (AllReadyH.cons rfl (fun K hK => ?_) AllReadyH.nil); go_simp)
 have hdone := putS_new hC.out.1 hC.out.2.1 (.int .i64 m.c) (.int .i64 m.d) (.int .i64 m.s) (.int .i64 m.e) (.int .i64 m.l) (.slice ta T.length tc)
 obtain ⟨wz, hwz⟩ : ∃ wz, wz = putS wb W.heap.size (.int .i64 m.c) (.int .i64 m.d) (.int .i64 m.s) (.int .i64 m.e) (.int .i64 m.l) (.slice ta T.length tc) := ⟨_, rfl⟩
 rw [← hwz] at hdone
 obtain ⟨hd2, hd3, hd4⟩ := hdone
 have hFz : V2 (fun b => W.heap.size ≤ b) wz (.slice ta T.length tc) T := V2.mono (S := fun b => W1.heap.size ≤ b) hC.out.2.2.1 (fun b hb _ => by have hb : W1.heap.size ≤ b := hb; omega) (fun b hb _ => hd4 b (by have hb : W1.heap.size ≤ b := hb; omega))
 have hz0 : wz.cell? ⟨W.heap.size, 0, none⟩ = some (.int .i64 m.c) := by rw [cell_of_block hd3]; rfl
 have hz1 : wz.cell? ⟨W.heap.size, 1, none⟩ = some (.int .i64 m.d) := by rw [cell_of_block hd3]; rfl
 have hz2 : wz.cell? ⟨W.heap.size, 2, none⟩ = some (.int .i64 m.s) := by rw [cell_of_block hd3]; rfl
 have hz3 : wz.cell? ⟨W.heap.size, 3, none⟩ = some (.int .i64 m.e) := by rw [cell_of_block hd3]; rfl
 have hz4 : wz.cell? ⟨W.heap.size, 4, none⟩ = some (.int .i64 m.l) := by rw [cell_of_block hd3]; rfl
 have hz5 : wz.cell? ⟨W.heap.size, 5, none⟩ = some (.slice ta T.length tc) := by rw [cell_of_block hd3]; rfl
 unfold putS putR at hwz
 rw [← hwz]
 clear hwz
 have hSz := hSk wz ((hd4 _ (by omega)).trans hMb)
 (refine hK.out _ _ hSz (fun hHeld => ?_); clear hK K; (try simp only [Act.put, List.setIfInBounds_toArray, List.set_cons_zero, List.set_cons_succ]))
 (refine wpAnyH_ready (rs := [4]) (by kernel_rfl) (by simp) (AllReadyH.cons rfl (fun K hK => ?_) AllReadyH.nil); go_simp)
 (refine hK.out _ _ hSz (fun hHeld => ?_); clear hK K; (try simp only [Act.put, List.setIfInBounds_toArray, List.set_cons_zero, List.set_cons_succ]))
 refine wpAnyH_done (by kernel_rfl) (NoPanic.normal ?_) _
 go_wp2_with fail
 exact bodyPost_ret (v := .tuple #[.agg #[.int .i64 m.c, .int .i64 m.d, .int .i64 m.s, .int .i64 m.e, .int .i64 m.l, .slice ta T.length tc], .int .i64 x]) (by simp [results, Tryz.results63, go_sem, hz0, hz1, hz2, hz3, hz4, hz5]) rfl ⟨m, _, T, x, rfl, hFz, hd2⟩
/-- A table as a literal leaves it: its rows in blocks from B on, the slice of the rows behind them. -/
def LitT (w : World) (B R C : Nat) (T : List (List Int)) : Prop :=
 T.length = R ∧ Shape T C ∧ (∀ k, k < R → w.heap[B + k]? = some (.cells ((getl T k).map (Value.int .i64)).toArray 2 (0, 0))) ∧
  ∃ cs, w.heap[B + R]? = some (.cells cs 35 (0, 0)) ∧ ∀ k, k < R → cs[k]? = some (.slice (some ⟨B + k, 0, none⟩) C C)
theorem LitT.keep {w w' : World} {B R C : Nat} {T : List (List Int)} (h : LitT w B R C T) (hk : ∀ b, B ≤ b → b < w.heap.size → w'.heap[b]? = w.heap[b]?) : LitT w' B R C T := by
 obtain ⟨h1, h2, h3, cs, h4, h5⟩ := h
 exact ⟨h1, h2, fun k hk' => (hk _ (by omega) (lt_of_heap (h3 k hk'))).trans (h3 k hk'), cs, (hk _ (by omega) (lt_of_heap h4)).trans h4, h5⟩
theorem LitT.f2 {w : World} {B R C : Nat} {T : List (List Int)} (h : LitT w B R C T) (hR : R ≤ 1000) (hC : C ≤ 1000) : F2 B w (.slice (some ⟨B + R, 0, none⟩) R R) T := by
 obtain ⟨h1, h2, h3, cs, h4, h5⟩ := h
 subst h1
 refine ⟨B + T.length, fun k => B + k, ⟨_, T.length, rfl, Nat.le_refl _, by unfold maxLen; omega, fun _ => ⟨0, cs, _, rfl, h4, fun k hk => ⟨_, by rw [Nat.zero_add]; exact h5 k hk, _, C, by rw [h2 k hk], by rw [h2 k hk]; exact Nat.le_refl _, by unfold maxLen; omega, fun _ => ⟨0, _, _, rfl, h3 k hk, fun q hq => ?_⟩⟩⟩, fun k hk _ => ⟨by show B + k ≠ B + T.length; omega, fun j hj hjk _ => by show B + j ≠ B + k; omega⟩⟩, fun _ => by show B ≤ B + T.length; omega, fun k _ _ => by show B ≤ B + k; omega⟩
 simp only [Nat.zero_add, List.getElem?_toArray, List.getElem?_map]
 rw [List.getElem?_eq_getElem hq, geti_eq hq]
 rfl
theorem LitT.put {w : World} {B R C k c : Nat} {x : Int} {T : List (List Int)} (h : LitT w B R C T) (hk : k < R) (hc : c < C) :
  LitT (w.setCell ⟨B + k, c, none⟩ (.int .i64 x)) B R C (setT T k c x) := by
 obtain ⟨h1, h2, h3, cs, h4, h5⟩ := h
 refine ⟨by rw [setT_len]; exact h1, h2.set, fun j hj => ?_, cs, (heap_setCell_other _ (by omega)).trans h4, h5⟩
 unfold setT
 rw [getl_set (by omega)]
 by_cases hjk : k = j
 ·subst hjk
  rw [if_pos rfl, heap_setCell_self (h3 k hk)]
  simp
 ·rw [if_neg hjk, heap_setCell_other _ (by omega)]
  exact h3 j hj
theorem LitT.cell {w : World} {B R C k c : Nat} {T : List (List Int)} (h : LitT w B R C T) (hk : k < R) (hc : c < C) :
  (∃ x : Int, w.cell? ⟨B + k, c, none⟩ = some (.int .i64 x)) ∧ w.frozen? ⟨B + k, c, none⟩ = false := by
 obtain ⟨h1, h2, h3, _⟩ := h
 have hl := h2 k (by omega)
 refine ⟨⟨geti (getl T k) c, ?_⟩, frozen_of_block (h3 k hk) _⟩
 rw [cell_of_block (h3 k hk)]
 simp only [List.getElem?_toArray, List.getElem?_map]
 rw [List.getElem?_eq_getElem (by omega), geti_eq (by omega)]
 rfl
theorem LitT.rows {w : World} {B R C : Nat} {T : List (List Int)} (h : LitT w B R C T) : ∀ k, k < R → w.cell? ⟨B + R, k, none⟩ = some (.slice (some ⟨B + k, 0, none⟩) C C) := fun k hk => by
 obtain ⟨h1, h2, h3, cs, h4, h5⟩ := h
 rw [cell_of_block h4]; exact h5 k hk
/-- What a draw of a system from a code answers. -/
def DrawSy (W : World) (e : Ending) (w' : World) : Prop :=
 ∃ (m : Mk) (u : Value) (T : List (List Int)), e = .returned (.agg #[.int .i64 m.c, .int .i64 m.d, .int .i64 m.s, .int .i64 m.e, .int .i64 m.l, u]) ∧ V2 (fun b => W.heap.size ≤ b) w' u T ∧ Below W.heap.size W w'
theorem DrawSy.open {W w' : World} {e : Ending} (h : DrawSy W e w') : ∃ (m : Mk) (u : Value) (T : List (List Int)), e = .returned (.agg #[.int .i64 m.c, .int .i64 m.d, .int .i64 m.s, .int .i64 m.e, .int .i64 m.l, u]) ∧ V2 (fun b => W.heap.size ≤ b) w' u T ∧ Below W.heap.size W w' := h
theorem DrawFi.open {W w' : World} {e : Ending} (h : DrawFi W e w') : ∃ (m : Mk) (u : Value) (T : List (List Int)) (n : Int), e = .returned (.tuple #[.agg #[.int .i64 m.c, .int .i64 m.d, .int .i64 m.s, .int .i64 m.e, .int .i64 m.l, u], .int .i64 n]) ∧ V2 (fun b => W.heap.size ≤ b) w' u T ∧ Below W.heap.size W w' := h
/-- What a draw of a system and two numbers from a code answers. -/
def DrawF2 (W : World) (e : Ending) (w' : World) : Prop :=
 ∃ (m : Mk) (u : Value) (T : List (List Int)) (k n : Int), e = .returned (.tuple #[.agg #[.int .i64 m.c, .int .i64 m.d, .int .i64 m.s, .int .i64 m.e, .int .i64 m.l, u], .int .i64 k, .int .i64 n]) ∧ V2 (fun b => W.heap.size ≤ b) w' u T ∧ Below W.heap.size W w'
theorem DrawF2.open {W w' : World} {e : Ending} (h : DrawF2 W e w') : ∃ (m : Mk) (u : Value) (T : List (List Int)) (k n : Int), e = .returned (.tuple #[.agg #[.int .i64 m.c, .int .i64 m.d, .int .i64 m.s, .int .i64 m.e, .int .i64 m.l, u], .int .i64 k, .int .i64 n]) ∧ V2 (fun b => W.heap.size ≤ b) w' u T ∧ Below W.heap.size W w' := h
set_option maxRecDepth 100000 in
set_option maxHeartbeats 1000000 in
theorem DrawCountDesigns_any {S : Nat → Prop} (v : Value) (l : List Int) (W : World) (h : VB S W v l) :
  Calls Tryz.prog 55 #[v] W (DrawFi W) := by
 obtain ⟨a, c, rfl, hm⟩ := h.form
 obtain ⟨W1, hW1, hB01, hz01, HZ01, _, hh01⟩ := box_facts W #[.int .i64 0, .int .i64 0, .int .i64 0, .int .i64 0, .int .i64 0, .slice none 0 0] 28
 have hz1e := HZ01.out
 have hz1l : W1.heap.size ≤ W.heap.size + 1 := by omega
 have HL := Lib.hid (And.intro (h.below hB01) (And.intro hB01 (And.intro hh01 hW1))); clear h hh01 hB01 hz1e
 go_enter Tryz.func55, Tryz.ntmps55
 go_wp2_with fail
 rw [← HL.out.2.2.2]
 clear hW1
 refine (DrawFindDesign_any _ l W1 HL.out.1).mono ?_
 rintro e' w3 ⟨m, u, T, n, rfl, hu, hb3⟩
 have hz3 := hb3.size
 obtain ⟨ta, tc, rfl, _⟩ := hu.form
 have H3 := Lib.hid (And.intro (HL.out.2.1.trans (hb3.mono (by omega))) (And.intro ((hb3.block _ hz01).trans HL.out.2.2.1) hu)); clear hb3 hu
 have hcRz : ∀ o, w3.cell? ⟨W.heap.size, o, none⟩ = (#[.int .i64 0, .int .i64 0, .int .i64 0, .int .i64 0, .int .i64 0, .slice none 0 0] : Array Value)[o]? := fun o => by rw [cell_of_block H3.out.2.1]
 have hfRz := fun o => frozen_of_block H3.out.2.1 o
 have hdone := putS_new H3.out.1 H3.out.2.1 (.int .i64 m.c) (.int .i64 m.d) (.int .i64 m.s) (.int .i64 m.e) (.int .i64 m.l) (.slice ta T.length tc)
 obtain ⟨wz, hwz⟩ : ∃ wz, wz = putS w3 W.heap.size (.int .i64 m.c) (.int .i64 m.d) (.int .i64 m.s) (.int .i64 m.e) (.int .i64 m.l) (.slice ta T.length tc) := ⟨_, rfl⟩
 rw [← hwz] at hdone
 obtain ⟨hd2, hd3, hd4⟩ := hdone
 have hFz : V2 (fun b => W.heap.size ≤ b) wz (.slice ta T.length tc) T := V2.mono (S := fun b => W1.heap.size ≤ b) H3.out.2.2 (fun b hb _ => by have hb : W1.heap.size ≤ b := hb; omega) (fun b hb _ => hd4 b (by have hb : W1.heap.size ≤ b := hb; omega))
 have hz0 : wz.cell? ⟨W.heap.size, 0, none⟩ = some (.int .i64 m.c) := by rw [cell_of_block hd3]; rfl
 have hz1 : wz.cell? ⟨W.heap.size, 1, none⟩ = some (.int .i64 m.d) := by rw [cell_of_block hd3]; rfl
 have hz2 : wz.cell? ⟨W.heap.size, 2, none⟩ = some (.int .i64 m.s) := by rw [cell_of_block hd3]; rfl
 have hz3 : wz.cell? ⟨W.heap.size, 3, none⟩ = some (.int .i64 m.e) := by rw [cell_of_block hd3]; rfl
 have hz4 : wz.cell? ⟨W.heap.size, 4, none⟩ = some (.int .i64 m.l) := by rw [cell_of_block hd3]; rfl
 have hz5 : wz.cell? ⟨W.heap.size, 5, none⟩ = some (.slice ta T.length tc) := by rw [cell_of_block hd3]; rfl
 have HZ := Lib.hid (And.intro hd2 (And.intro hFz (And.intro hwz (And.intro hz0 (And.intro hz1 (And.intro hz2 (And.intro hz3 (And.intro hz4 hz5)))))))); clear hd2 hd3 hd4 hFz hwz hz0 hz1 hz2 hz3 hz4 hz5
 go_wp2_with fail
 have hwz := HZ.out.2.2.1
 unfold putS putR at hwz
 rw [← hwz]
 clear hwz
 obtain ⟨hd2, hFz, hwzz, hz0, hz1, hz2, hz3, hz4, hz5⟩ := HZ.out
 clear hwzz
 exact bodyPost_ret (v := .tuple #[.agg #[.int .i64 m.c, .int .i64 m.d, .int .i64 m.s, .int .i64 m.e, .int .i64 m.l, .slice ta T.length tc], .int .i64 n]) (by simp [results, Tryz.results55, go_sem, hz0, hz1, hz2, hz3, hz4, hz5]) rfl ⟨m, _, T, n, rfl, hFz, hd2⟩
set_option maxRecDepth 100000 in
set_option maxHeartbeats 2000000 in
theorem DrawDesignsOf_any {S : Nat → Prop} (v : Value) (l : List Int) (W : World) (h : VB S W v l) :
  Calls Tryz.prog 60 #[v] W (DrawF2 W) := by
 obtain ⟨a, c, rfl, hm⟩ := h.form
 obtain ⟨W1, hW1, hB01, hz01, HZ01, _, hh01⟩ := box_facts W #[.int .i64 0, .int .i64 0, .int .i64 0, .int .i64 0, .int .i64 0, .slice none 0 0] 28
 have hz1e := HZ01.out
 have hz1l : W1.heap.size ≤ W.heap.size + 1 := by omega
 have HL := Lib.hid (And.intro (h.below hB01) (And.intro hB01 (And.intro hh01 hW1))); clear h hh01 hB01 hz1e
 go_enter Tryz.func60, Tryz.ntmps60
 go_wp2_with fail
 rw [← HL.out.2.2.2]
 clear hW1
 refine (l01From_any _ l W1 HL.out.1).mono ?_
 rintro e' w2 ⟨rfl, hs2, hb2⟩
 have hz2 := hb2.size
 have H2 := Lib.hid (And.intro hs2 (And.intro hb2 ((hb2.block _ hz01).trans HL.out.2.2.1))); clear hs2 hb2
 go_wp2_with fail
 refine (l17Draw_any W1.heap.size W1.heap.size w2 H2.out.1).mono ?_
 rintro e' w3 ⟨m, u, T, rfl, hsm, hu, hT12, hs3, ho3⟩
 have hz3 := ho3.size
 have hz23 : W1.heap.size < w2.heap.size := H2.out.1.lt
 obtain ⟨ta, tc, rfl, _⟩ := hu.form
 have hRw := ho3.heap H2.out.2.2 (fun e => by omega)
 have hBw : Below W.heap.size W w3 := HL.out.2.1.trans ((H2.out.2.1.trans (ho3.to_below (Nat.le_refl _) (by omega))).mono (by omega))
 obtain ⟨w4, hw4⟩ : ∃ w4, w4 = w3.alloc (.cells #[.int .i64 m.c, .int .i64 m.d, .int .i64 m.s, .int .i64 m.e, .int .i64 m.l, .slice ta T.length tc] 28) := ⟨_, rfl⟩
 have hb34 : Below w3.heap.size w3 w4 := by rw [hw4]; exact (Below.refl _ _).alloc (Nat.le_refl _) _
 have hM4 : w4.heap[w3.heap.size]? = some (.cells #[.int .i64 m.c, .int .i64 m.d, .int .i64 m.s, .int .i64 m.e, .int .i64 m.l, .slice ta T.length tc] 28 (0, 0)) := by rw [hw4]; exact heap_alloc_self _ _
 have hz4 : w3.heap.size < w4.heap.size := lt_of_heap hM4
 have H4 := Lib.hid (And.intro (hs3.below hb34) (And.intro (hBw.trans (hb34.mono (by omega))) (And.intro hM4 (And.intro ((hb34.block _ (by omega)).trans hRw) (And.intro (hu.below hb34) hw4))))); clear hs3 ho3 hRw hBw hb34 hM4 hu hsm hw4 hT12
 have hcM : ∀ o, w4.cell? ⟨w3.heap.size, o, none⟩ = (#[.int .i64 m.c, .int .i64 m.d, .int .i64 m.s, .int .i64 m.e, .int .i64 m.l, .slice ta T.length tc] : Array Value)[o]? := fun o => by rw [cell_of_block H4.out.2.2.1]
 have hSk : ∀ w' : World, w'.heap[w3.heap.size]? = w4.heap[w3.heap.size]? → w'.cell? ⟨w3.heap.size, 0, none⟩ = some (.int .i64 m.c) ∧ w'.cell? ⟨w3.heap.size, 1, none⟩ = some (.int .i64 m.d) ∧ w'.cell? ⟨w3.heap.size, 2, none⟩ = some (.int .i64 m.s) ∧ w'.cell? ⟨w3.heap.size, 3, none⟩ = some (.int .i64 m.e) ∧ w'.cell? ⟨w3.heap.size, 4, none⟩ = some (.int .i64 m.l) ∧ w'.cell? ⟨w3.heap.size, 5, none⟩ = some (.slice ta T.length tc) := fun w' hw => by
  refine ⟨?_, ?_, ?_, ?_, ?_, ?_⟩ <;> exact cell_keep (hcM _) hw
 go_wp2_with fail
 rw [← H4.out.2.2.2.2.2]
 refine wp_region_noPanic ?_
 refine wp_region_held_drew (S := fun w' => w'.cell? ⟨w3.heap.size, 0, none⟩ = some (.int .i64 m.c) ∧ w'.cell? ⟨w3.heap.size, 1, none⟩ = some (.int .i64 m.d) ∧ w'.cell? ⟨w3.heap.size, 2, none⟩ = some (.int .i64 m.s) ∧ w'.cell? ⟨w3.heap.size, 3, none⟩ = some (.int .i64 m.e) ∧ w'.cell? ⟨w3.heap.size, 4, none⟩ = some (.int .i64 m.l) ∧ w'.cell? ⟨w3.heap.size, 5, none⟩ = some (.slice ta T.length tc)) (by kernel_rfl) (hSk w4.drew rfl) (fun hHeld => ?_)
 (refine wpAnyH_take (i := 0) (v := .agg #[.int .i64 m.c, .int .i64 m.d, .int .i64 m.s, .int .i64 m.e, .int .i64 m.l, .slice ta T.length tc]) rfl (by kernel_rfl) (by kernel_rfl) (by kernel_rfl) (fun _ _ _ h => h) (Or.inl ⟨by kernel_rfl, fun w hSw => by (try dsimp only at hSw); go_split_ands; go_simp⟩) (by assumption) ?_; simp only [Act.put, List.setIfInBounds_toArray, List.set_cons_zero, List.set_cons_succ])
 (refine wpAnyH_take (i := 1) (v := .pointer (some ⟨W1.heap.size, 0, none⟩)) rfl (by kernel_rfl) (by kernel_rfl) (by kernel_rfl) (fun _ _ _ h => h) (Or.inl ⟨by kernel_rfl, fun w hSw => by (try dsimp only at hSw); go_split_ands; go_simp⟩) (by assumption) ?_; simp only [Act.put, List.setIfInBounds_toArray, List.set_cons_zero, List.set_cons_succ])
 (refine wpAnyH_take (i := 4) (v := .pointer (some ⟨W1.heap.size, 0, none⟩)) rfl (by kernel_rfl) (by kernel_rfl) (by kernel_rfl) (fun _ _ _ h => h) (Or.inl ⟨by kernel_rfl, fun w hSw => by (try dsimp only at hSw); go_split_ands; go_simp⟩) (by assumption) ?_; simp only [Act.put, List.setIfInBounds_toArray, List.set_cons_zero, List.set_cons_succ])
 have hbD : Below w4.heap.size w4 w4.drew := (Below.refl _ _).drew
 obtain ⟨wa, hwa⟩ : ∃ wa, wa = (w4.alloc (.cells #[.int .i64 0, .int .i64 1, .int .i64 2, .int .i64 5, .int .i64 10, .int .i64 11, .int .i64 (-1)] 2)).drew := ⟨_, rfl⟩
 have hbi : Below w4.heap.size w4 wa := by rw [hwa]; exact ((Below.refl w4.heap.size w4).alloc (Nat.le_refl _) _).drew
 have hL : V1 (fun b => b = w4.heap.size) wa (.slice (some ⟨w4.heap.size, 0, none⟩) 7 7) [0, 1, 2, 5, 10, 11, -1] := by rw [hwa]; exact lit_V1 w4 2 [0, 1, 2, 5, 10, 11, -1] (by simp)
 have HA := Lib.hid (And.intro (H4.out.1.below hbi) (And.intro hbi (And.intro hL hwa))); clear hbi hwa hL hbD
 refine wpAnyH_ready (rs := [2]) (by kernel_rfl) (by simp) (AllReadyH.cons rfl (fun K hK => ?_) AllReadyH.nil)
 go_simp
 rw [← HA.out.2.2.2]
 have hMa : wa.heap[w3.heap.size]? = w4.heap[w3.heap.size]? := HA.out.2.1.block _ hz4
 (refine hK.out _ _ (hSk wa hMa) (fun hHeld => ?_); clear hK K; (try simp only [Act.put, List.setIfInBounds_toArray, List.set_cons_zero, List.set_cons_succ]))
 refine wpAnyH_ready (rs := [3]) (by kernel_rfl) (by simp) (AllReadyH.cons rfl (fun K hK => ?_) AllReadyH.nil)
 go_simp
 go_at_call 164
 refine (l01Pick_any W1.heap.size W1.heap.size _ [0, 1, 2, 5, 10, 11, -1] wa HA.out.1 HA.out.2.2.1 (fun b hb => by omega) (by simp)).mono ?_
 rintro e' wb ⟨y, rfl, hy, hsb, hob⟩
 have hob4 : Only W1.heap.size w4 wb := (Only.of_below HA.out.2.1).trans hob
 have hMb : wb.heap[w3.heap.size]? = w4.heap[w3.heap.size]? := hob4.block _ (by omega) (fun e => by omega)
 have hzb := hob4.size
 have HB := Lib.hid (And.intro hsb hob4)
 clear hy hsb hob hob4 hMa
 dsimp only
 (refine hK.out _ _ (hSk wb hMb) (fun hHeld => ?_); clear hK K; (try simp only [Act.put, List.setIfInBounds_toArray, List.set_cons_zero, List.set_cons_succ]))
 refine wpAnyH_ready (rs := [5]) (by kernel_rfl) (by simp) (AllReadyH.cons rfl (fun K hK => ?_) AllReadyH.nil)
 go_simp
 go_at_call 165
 refine (l17DrawLimit_any W1.heap.size W1.heap.size _ HB.out.1).mono ?_
 rintro e' wc ⟨x, rfl, hsc, hoc⟩
 have hoc4 : Only W1.heap.size w4 wc := HB.out.2.trans hoc
 have hzc := hoc4.size
 have hMc : wc.heap[w3.heap.size]? = w4.heap[w3.heap.size]? := hoc4.block _ (by omega) (fun e => by omega)
 have hBc : Below W.heap.size W wc := H4.out.2.1.trans ((hoc4.to_below (B := W1.heap.size) (Nat.le_refl _) (by omega)).mono (by omega))
 have hRc := hoc4.heap H4.out.2.2.2.1 (fun e => by omega)
 have huc := H4.out.2.2.2.2.1.mono (S' := fun b => W1.heap.size ≤ b) (fun b hb _ => by have hb : w2.heap.size ≤ b := hb; omega) (hoc4.keep fun b hb e => by have hb : w2.heap.size ≤ b := hb; omega)
 have hC := Lib.hid (And.intro hBc (And.intro hRc huc)); clear hBc hRc huc hsc hoc hoc4 hMb hcM
 dsimp only
 (refine hK.out _ _ (hSk wc hMc) (fun hHeld => ?_); clear hK K; (try simp only [Act.put, List.setIfInBounds_toArray, List.set_cons_zero, List.set_cons_succ]))
 have hcRz : ∀ o, wc.cell? ⟨W.heap.size, o, none⟩ = (#[.int .i64 0, .int .i64 0, .int .i64 0, .int .i64 0, .int .i64 0, .slice none 0 0] : Array Value)[o]? := fun o => by rw [cell_of_block hC.out.2.1]
 have hfRz := fun o => frozen_of_block hC.out.2.1 o
 have hdone := putS_new hC.out.1 hC.out.2.1 (.int .i64 m.c) (.int .i64 m.d) (.int .i64 m.s) (.int .i64 m.e) (.int .i64 m.l) (.slice ta T.length tc)
 obtain ⟨wz, hwz⟩ : ∃ wz, wz = putS wc W.heap.size (.int .i64 m.c) (.int .i64 m.d) (.int .i64 m.s) (.int .i64 m.e) (.int .i64 m.l) (.slice ta T.length tc) := ⟨_, rfl⟩
 rw [← hwz] at hdone
 obtain ⟨hd2, hd3, hd4⟩ := hdone
 have hFz : V2 (fun b => W.heap.size ≤ b) wz (.slice ta T.length tc) T := V2.mono (S := fun b => W1.heap.size ≤ b) hC.out.2.2 (fun b hb _ => by have hb : W1.heap.size ≤ b := hb; omega) (fun b hb _ => hd4 b (by have hb : W1.heap.size ≤ b := hb; omega))
 have hz0 : wz.cell? ⟨W.heap.size, 0, none⟩ = some (.int .i64 m.c) := by rw [cell_of_block hd3]; rfl
 have hz1 : wz.cell? ⟨W.heap.size, 1, none⟩ = some (.int .i64 m.d) := by rw [cell_of_block hd3]; rfl
 have hz2 : wz.cell? ⟨W.heap.size, 2, none⟩ = some (.int .i64 m.s) := by rw [cell_of_block hd3]; rfl
 have hz3 : wz.cell? ⟨W.heap.size, 3, none⟩ = some (.int .i64 m.e) := by rw [cell_of_block hd3]; rfl
 have hz4 : wz.cell? ⟨W.heap.size, 4, none⟩ = some (.int .i64 m.l) := by rw [cell_of_block hd3]; rfl
 have hz5 : wz.cell? ⟨W.heap.size, 5, none⟩ = some (.slice ta T.length tc) := by rw [cell_of_block hd3]; rfl
 (refine wpAnyH_ready (rs := [6]) (by kernel_rfl) (by simp) (AllReadyH.cons rfl (fun K hK => ?_) AllReadyH.nil); go_simp)
 unfold putS putR at hwz
 rw [← hwz]
 clear hwz
 have hSz := hSk wz ((hd4 _ (by omega)).trans hMc)
 (refine hK.out _ _ hSz (fun hHeld => ?_); clear hK K; (try simp only [Act.put, List.setIfInBounds_toArray, List.set_cons_zero, List.set_cons_succ]))
 (refine wpAnyH_ready (rs := [7]) (by kernel_rfl) (by simp) (AllReadyH.cons rfl (fun K hK => ?_) AllReadyH.nil); go_simp)
 (refine hK.out _ _ hSz (fun hHeld => ?_); clear hK K; (try simp only [Act.put, List.setIfInBounds_toArray, List.set_cons_zero, List.set_cons_succ]))
 (refine wpAnyH_ready (rs := [8]) (by kernel_rfl) (by simp) (AllReadyH.cons rfl (fun K hK => ?_) AllReadyH.nil); go_simp)
 (refine hK.out _ _ hSz (fun hHeld => ?_); clear hK K; (try simp only [Act.put, List.setIfInBounds_toArray, List.set_cons_zero, List.set_cons_succ]))
 refine wpAnyH_done (by kernel_rfl) (NoPanic.normal ?_) _
 go_wp2_with fail
 exact bodyPost_ret (v := .tuple #[.agg #[.int .i64 m.c, .int .i64 m.d, .int .i64 m.s, .int .i64 m.e, .int .i64 m.l, .slice ta T.length tc], .int .i64 y, .int .i64 x]) (by simp [results, Tryz.results60, go_sem, hz0, hz1, hz2, hz3, hz4, hz5]) rfl ⟨m, _, T, y, x, rfl, hFz, hd2⟩
theorem falseL_none {n : Nat} {t : List (List Int)} : falseL n t [] = [] := by
 refine List.eq_nil_iff_forall_not_mem.2 fun x hx => ?_
 obtain ⟨i, d, hi, _⟩ := mem_falseRows.1 hx
 simp at hi
/-- Designs are counted. -/
def visC (s : Nat) (design : List (List Int)) : Nat × Bool := (s + 1, true)
def cntF (m : Mk) (t : List (List Int)) (limit : Nat) : GSt Nat := (goF limit (stayP m.c.toNat t) visC (keysOf m) t.length [] (0, false, 0)).1
def cntAns (m : Mk) (t : List (List Int)) (limit : Int) : Int × Int :=
 if searchC m t [] limit ≠ 0 then (0, searchC m t [] limit) else if (cntF m t limit.toNat).2.1 = true then (0, 3) else (((cntF m t limit.toNat).2.2 : Int), 0)
def triesAns (m : Mk) (t : List (List Int)) (limit : Int) : Int × Int :=
 if searchC m t [] limit ≠ 0 then (0, searchC m t [] limit) else if (cntF m t limit.toNat).2.1 = true then (0, 3) else (((cntF m t limit.toNat).1 : Int), 0)
/-! ### Two searches that do alike with each design -/
section
variable {τ σ : Type}
def mapS (f : τ → σ) (s : GSt τ) : GSt σ := (s.1, s.2.1, f s.2.2)
structure Sim (limit : Nat) (vis1 : τ → List (List Int) → τ × Bool) (vis2 : σ → List (List Int) → σ × Bool) (f : τ → σ) (P Q : Nat → τ → Prop) : Prop where
 vis : ∀ q s c, q ≤ limit → Q q s → vis2 (f s) c = (f (vis1 s c).1, (vis1 s c).2) ∧ P q (vis1 s c).1
 one : ∀ q s, P q s → Q (q + 1) s
 up : ∀ q s, P q s → P (q + 1) s
 le : ∀ q s, Q q s → P q s
variable {limit : Nat} {vis1 : τ → List (List Int) → τ × Bool} {vis2 : σ → List (List Int) → σ × Bool} {f : τ → σ} {P Q : Nat → τ → Prop} {stay : List (List Int) → List Int → Bool} {keys : List (List Int)}
theorem runL_sim (S : Sim limit vis1 vis2 f P Q) {d : Nat} {cuts : List (List Int)}
  (ih : ∀ (cuts : List (List Int)) (s : GSt τ), Q s.1 s.2.2 → s.1 ≤ limit → goF limit stay vis2 keys d cuts (mapS f s) = (mapS f (goF limit stay vis1 keys d cuts s).1, (goF limit stay vis1 keys d cuts s).2) ∧ P (goF limit stay vis1 keys d cuts s).1.1 (goF limit stay vis1 keys d cuts s).1.2.2) :
  ∀ (l : List (List Int)) (s : GSt τ), P s.1 s.2.2 → s.1 ≤ limit →
    runL (goStep limit stay (goF limit stay vis2 keys d) cuts) (mapS f s) l = (mapS f (runL (goStep limit stay (goF limit stay vis1 keys d) cuts) s l).1, (runL (goStep limit stay (goF limit stay vis1 keys d) cuts) s l).2) ∧
     P (runL (goStep limit stay (goF limit stay vis1 keys d) cuts) s l).1.1 (runL (goStep limit stay (goF limit stay vis1 keys d) cuts) s l).1.2.2
 | [], s, hs, _ => ⟨rfl, hs⟩
 | k :: l, s, hs, hl => by
   have h1 : goStep limit stay (goF limit stay vis2 keys d) cuts (mapS f s) k = (mapS f (goStep limit stay (goF limit stay vis1 keys d) cuts s k).1, (goStep limit stay (goF limit stay vis1 keys d) cuts s k).2) ∧
     P (goStep limit stay (goF limit stay vis1 keys d) cuts s k).1.1 (goStep limit stay (goF limit stay vis1 keys d) cuts s k).1.2.2 := by
    unfold goStep
    by_cases h : s.1 = limit
    ·rw [if_pos (show (mapS f s).1 = limit from h), if_pos h]; exact ⟨rfl, hs⟩
    ·rw [if_neg (show ¬ (mapS f s).1 = limit from h), if_neg h]
     by_cases h2 : stay cuts k = true
     ·rw [if_pos h2, if_pos h2]
      exact ih (cuts ++ [k]) (s.1 + 1, s.2.1, s.2.2) (S.one _ _ hs) (by show s.1 + 1 ≤ limit; omega)
     ·rw [if_neg h2, if_neg h2]; exact ⟨rfl, S.up _ _ hs⟩
   have h3 : (goStep limit stay (goF limit stay vis1 keys d) cuts s k).1.1 ≤ limit := goStep_le (fun c s hs => goF_le hs) hl
   obtain ⟨q, hq⟩ : ∃ q, goStep limit stay (goF limit stay vis1 keys d) cuts s k = q := ⟨_, rfl⟩
   rw [hq] at h1 h3
   unfold runL
   rw [h1.1, hq]
   dsimp only
   by_cases hb : q.2 = true
   ·rw [if_pos hb, if_pos hb]
    exact runL_sim S ih l q.1 h1.2 h3
   ·rw [if_neg hb, if_neg hb]
    exact ⟨rfl, h1.2⟩
theorem goF_sim (S : Sim limit vis1 vis2 f P Q) : ∀ (d : Nat) (cuts : List (List Int)) (s : GSt τ), Q s.1 s.2.2 → s.1 ≤ limit →
  goF limit stay vis2 keys d cuts (mapS f s) = (mapS f (goF limit stay vis1 keys d cuts s).1, (goF limit stay vis1 keys d cuts s).2) ∧ P (goF limit stay vis1 keys d cuts s).1.1 (goF limit stay vis1 keys d cuts s).1.2.2
 | 0, cuts, s, hs, hl => by
   obtain ⟨h1, h2⟩ := S.vis s.1 s.2.2 cuts hl hs
   refine ⟨?_, h2⟩
   show ((s.1, s.2.1, (vis2 (f s.2.2) cuts).1), (vis2 (f s.2.2) cuts).2) = ((s.1, s.2.1, f (vis1 s.2.2 cuts).1), (vis1 s.2.2 cuts).2)
   rw [h1]
 | d + 1, cuts, s, hs, hl => runL_sim S (goF_sim S d) keys s (S.le _ _ hs) hl
/-- The whole search of a system with rows. -/
theorem goF_start (S : Sim limit vis1 vis2 f P Q) {d : Nat} (hd : 1 ≤ d) {s : τ} (hs : P 0 s) :
  goF limit stay vis2 keys d [] (0, false, f s) = (mapS f (goF limit stay vis1 keys d [] (0, false, s)).1, (goF limit stay vis1 keys d [] (0, false, s)).2) ∧ P (goF limit stay vis1 keys d [] (0, false, s)).1.1 (goF limit stay vis1 keys d [] (0, false, s)).1.2.2 := by
 obtain ⟨e, rfl⟩ : ∃ e, d = e + 1 := ⟨d - 1, by omega⟩
 exact runL_sim S (goF_sim S e) keys (0, false, s) hs (Nat.zero_le _)
end
/-- The program's count of designs. -/
def visW (s : Int) (design : List (List Int)) : Int × Bool := (wrap64 (s + 1), true)
theorem sim_keep {limit : Nat} {most : Int} (hm : (limit : Int) < most) : Sim limit (visK most) visC (fun l => l.length) (fun q l => l.length ≤ q) (fun q l => l.length + 1 ≤ q) :=
 ⟨fun q s c hq hs => by
  refine ⟨?_, by show (s ++ [c]).length ≤ q; rw [List.length_append]; exact hs⟩
  show (s.length + 1, true) = ((s ++ [c]).length, decide ((s.length : Int) + 1 < most))
  rw [decide_eq_true (by omega), List.length_append]
  rfl, fun q s h => by omega, fun q s h => by omega, fun q s h => by omega⟩
theorem sim_wrap {limit : Nat} (hm : limit ≤ 4000) : Sim limit visC visW (fun n : Nat => (n : Int)) (fun q n => n ≤ q) (fun q n => n + 1 ≤ q) :=
 ⟨fun q s c hq hs => by
  refine ⟨?_, hs⟩
  show (wrap64 ((s : Int) + 1), true) = (((s + 1 : Nat) : Int), true)
  rw [IntWalk.wrap64_in _ (by omega)]
  simp, fun q s h => by omega, fun q s h => by omega, fun q s h => by omega⟩
theorem cntF_ref {m : Mk} {t : List (List Int)} {limit : Nat} {most : Int} (ht : 1 ≤ t.length) (hm : (limit : Int) < most) : mapS (fun l => l.length) (firstF m.c.toNat t (keysOf m) [] most limit) = cntF m t limit := by
 have h := (goF_start (stay := stayP m.c.toNat t) (keys := keysOf m) (sim_keep hm) ht (s := []) (Nat.zero_le _)).1
 unfold firstF cntF
 rw [if_pos (by omega)]
 exact (congrArg Prod.fst h).symm
theorem cntF_wrap {m : Mk} {t : List (List Int)} {limit : Nat} (ht : 1 ≤ t.length) (hm : limit ≤ 4000) : (goF limit (stayP m.c.toNat t) visW (keysOf m) t.length [] (0, false, 0)).1 = mapS (fun n : Nat => (n : Int)) (cntF m t limit) ∧ (cntF m t limit).2.2 ≤ 4000 := by
 obtain ⟨h, h2⟩ := goF_start (stay := stayP m.c.toNat t) (keys := keysOf m) (sim_wrap hm) ht (s := 0) (Nat.zero_le _)
 refine ⟨congrArg Prod.fst h, ?_⟩
 have h3 := goF_le (stay := stayP m.c.toNat t) (vis := visC) (keys := keysOf m) (d := t.length) (cuts := []) (s := (0, false, 0)) (Nat.zero_le limit)
 unfold cntF
 omega
end Go.Proofs.YtmaefilliggjiaaGreat
