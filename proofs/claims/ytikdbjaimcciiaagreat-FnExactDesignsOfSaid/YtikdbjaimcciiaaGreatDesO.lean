/- The first designs of a system: the program and the reference. No conditions. -/
import Derived.Test.YtikdbjaimcciiaaGreatMFindO
import Derived.Test.YtikdbjaimcciiaaGreatMOutT
namespace Go.Proofs.YtikdbjaimcciiaaGreat
open Go.RowKit
set_option linter.unusedVariables false
set_option linter.unusedSimpArgs false

def desAns (m : Mk) (t : List (List Int)) (most limit : Int) : List (List (List Int)) × Int :=
  if searchC m t [] limit ≠ 0 then ([], searchC m t [] limit) else if inB most 0 10 = false then ([], 2)
  else if (firstF m.c.toNat t (keysOf m) [] most limit.toNat).2.1 = true then ([], 3) else ((firstF m.c.toNat t (keysOf m) [] most limit.toNat).2.2, 0)
theorem goF_few {limit n : Nat} {m : Mk} {t : List (List Int)} {most : Int} : ∀ {d : Nat} {cuts : List (List Int)} {s : DSt}, (s.2.2.length : Int) < most → ((goF limit (stayP n t) (visK most) (keysOf m) d cuts s).1.2.2.length : Int) ≤ most ∧ ((goF limit (stayP n t) (visK most) (keysOf m) d cuts s).2 = true → ((goF limit (stayP n t) (visK most) (keysOf m) d cuts s).1.2.2.length : Int) < most)
  | 0, cuts, s, h => by
    refine ⟨by show ((s.2.2 ++ [cuts]).length : Int) ≤ most; simp; omega, fun h2 => ?_⟩
    have h3 : decide ((s.2.2.length : Int) + 1 < most) = true := h2
    have := of_decide_eq_true h3
    show ((s.2.2 ++ [cuts]).length : Int) < most
    simp; omega
  | d + 1, cuts, s, h => by
    have key : ∀ (l : List (List Int)) (s : DSt), (s.2.2.length : Int) < most → ((runL (goStep limit (stayP n t) (goF limit (stayP n t) (visK most) (keysOf m) d) cuts) s l).1.2.2.length : Int) ≤ most ∧
        ((runL (goStep limit (stayP n t) (goF limit (stayP n t) (visK most) (keysOf m) d) cuts) s l).2 = true → ((runL (goStep limit (stayP n t) (goF limit (stayP n t) (visK most) (keysOf m) d) cuts) s l).1.2.2.length : Int) < most) := by
      intro l
      induction l with
      | nil => intro s h; exact ⟨by show (s.2.2.length : Int) ≤ most; omega, fun _ => h⟩
      | cons k l ih =>
        intro s h
        have h1 : ((goStep limit (stayP n t) (goF limit (stayP n t) (visK most) (keysOf m) d) cuts s k).1.2.2.length : Int) ≤ most ∧ ((goStep limit (stayP n t) (goF limit (stayP n t) (visK most) (keysOf m) d) cuts s k).2 = true → ((goStep limit (stayP n t) (goF limit (stayP n t) (visK most) (keysOf m) d) cuts s k).1.2.2.length : Int) < most) := by
          unfold goStep
          split
          · exact ⟨by show (s.2.2.length : Int) ≤ most; omega, fun h2 => by cases h2⟩
          · split
            · exact goF_few h
            · exact ⟨by show (s.2.2.length : Int) ≤ most; omega, fun _ => h⟩
        unfold runL
        by_cases hk : (goStep limit (stayP n t) (goF limit (stayP n t) (visK most) (keysOf m) d) cuts s k).2 = true
        · rw [if_pos hk]; exact ih _ (h1.2 hk)
        · rw [if_neg hk]; exact ⟨h1.1, fun h2 => by cases h2⟩
    exact key (keysOf m) s h
theorem firstF_few {m : Mk} {n : Nat} {t cuts : List (List Int)} {most : Int} {limit : Nat} (h : 0 ≤ most) : ((firstF n t (keysOf m) cuts most limit).2.2.length : Int) ≤ most := by
  unfold firstF
  split
  · exact (goF_few (by show ((0 : Nat) : Int) < most; omega)).1
  · show ((0 : Nat) : Int) ≤ most; omega
theorem desAns_len (m : Mk) (t : List (List Int)) (most limit : Int) : (desAns m t most limit).1.length ≤ 10 ∧ ∀ k, k < (desAns m t most limit).1.length → (getll (desAns m t most limit).1 k).length ≤ 1048576 ∧ ∀ r ∈ getll (desAns m t most limit).1 k, r.length ≤ 1048576 := by
  unfold desAns
  split
  · exact ⟨Nat.zero_le _, fun k hk => by simp at hk⟩
  · rename_i h
    split
    · exact ⟨Nat.zero_le _, fun k hk => by simp at hk⟩
    · rename_i hm
      split
      · exact ⟨Nat.zero_le _, fun k hk => by simp at hk⟩
      · have hok := (searchC_ok.1 (Decidable.not_not.1 h)).1
        have hm2 := inB_iff.1 (show inB most 0 10 = true by simpa using hm)
        have hf := firstF_few (m := m) (n := m.c.toNat) (t := t) (cuts := []) (most := most) (limit := limit.toNat) hm2.1
        refine ⟨by show ((firstF m.c.toNat t (keysOf m) [] most limit.toNat).2.2).length ≤ 10; omega, fun k hk => ?_⟩
        show (getll (firstF m.c.toNat t (keysOf m) [] most limit.toNat).2.2 k).length ≤ 1048576 ∧ ∀ r ∈ getll (firstF m.c.toNat t (keysOf m) [] most limit.toNat).2.2 k, r.length ≤ 1048576
        have hd := (firstF_des (n := m.c.toNat) (most := most) (limit := limit.toNat) hok _ (getll_mem hk)).few
        exact ⟨by have := hd.1; omega, fun r hr => by
          obtain ⟨j, hj, rfl⟩ := List.getElem_of_mem hr
          have := (hd.2 j hj).1
          rw [getl_eq hj] at this
          omega⟩
def DesRes (B : Nat) (ans : List (List (List Int)) × Int) (e : Ending) (w' : World) : Prop := ∃ v' vs L U, e = .returned (.tuple #[v', .int .i64 ans.2]) ∧ Out3 B L U w' v' vs ans.1
theorem Out3.nil {B : Nat} {w : World} : Out3 B (fun _ => 0) (fun _ => 0) w (.slice none 0 0) [] [] := ⟨⟨rfl, .inl ⟨rfl, rfl⟩⟩, fun k hk => by simp at hk, fun k hk => by simp at hk⟩
theorem V2.nil6 {S : Nat → Prop} {w : World} : V2 S w (.slice none 0 0) [] := ⟨none, 0, rfl, Nat.le_refl _, Nat.zero_le _, fun k hk => by simp at hk⟩
set_option maxRecDepth 100000 in
set_option maxHeartbeats 1000000 in
theorem DesignsOf_x {S : Nat → Prop} (m : Mk) (u : Value) (t : List (List Int)) (most limit : Int) (W : World) (h : V2 S W u t) :
    Calls Tryz.prog 38 #[.agg #[.int .i64 m.c, .int .i64 m.d, .int .i64 m.s, .int .i64 m.e, .int .i64 m.l, u], .int .i64 most, .int .i64 limit] W fun e' w' => DesRes W.heap.size (desAns m t most limit) e' w' ∧ Below W.heap.size W w' := by
  obtain ⟨a, c, rfl, hmx⟩ := h.form
  obtain ⟨W1, hW1, hB01, hz01, HZ01, hc01, hh01⟩ := box_facts W #[.int .i64 m.c, .int .i64 m.d, .int .i64 m.s, .int .i64 m.e, .int .i64 m.l, .slice a t.length c] 28
  have hV1 : V2 (fun _ => True) W1 (.slice a t.length c) t := (h.below hB01).any
  have hsc := searchCode_any m _ (.slice none 0 0) t [] limit W1 hV1 (V2.nil6 (S := fun _ => True))
  by_cases hp : searchC m t [] limit = 0
  · obtain ⟨hok, hlim, hop⟩ := searchC_ok.1 hp
    rw [hp] at hsc
    obtain ⟨L, rfl⟩ : ∃ L : Nat, limit = (L : Int) := ⟨limit.toNat, by omega⟩
    cases hi : inB most 0 10
    · have hfin : desAns m t most (L : Int) = ([], 2) := by unfold desAns; rw [if_neg (by rw [hp]; simp), if_pos hi]
      rw [hfin]
      have H := Lib.hid (And.intro hsc (And.intro hi hfin)); clear hsc hi hfin hp hok hlim hop
      go_enter Tryz.func38, Tryz.ntmps38
      go_wp2_with fail
      rw [← hW1]
      refine H.out.1.mono ?_
      rintro e' w2 ⟨rfl, hb2⟩
      have hz2 := hb2.size
      have hx2 : ∀ o, w2.cell? ⟨W.heap.size, o, none⟩ = (#[.int .i64 m.c, .int .i64 m.d, .int .i64 m.s, .int .i64 m.e, .int .i64 m.l, .slice a t.length c] : Array Value)[o]? := fun o => by rw [(bcell hb2).1 _ _ hz01, hc01]
      clear hc01 hh01
      go_wp2_with (go_at_call 106; refine (within_b _ _ _ _ _ H.out.2.1).mono ?_; rintro e' w' ⟨rfl, rfl⟩)
      go_ret2
      exact ⟨⟨_, _, _, _, rfl, Out3.nil⟩, hB01.trans (hb2.mono (by omega))⟩
    · have hmost := inB_iff.1 hi
      have hfin : desAns m t most (L : Int) = if (firstF m.c.toNat t (keysOf m) [] most L).2.1 = true then ([], 3) else ((firstF m.c.toNat t (keysOf m) [] most L).2.2, 0) := by
        unfold desAns; rw [if_neg (by rw [hp]; simp), if_neg (by rw [hi]; decide)]; rfl
      have hfd := fun w (hb : Below W1.heap.size W1 w) => firstDesigns_any m (.slice a t.length c) (.slice none 0 0) t [] most L w (hV1.below hb) (V2.nil6 (S := fun _ => True)) (fun _ => .inl rfl) hok hop (by omega) (by omega)
      obtain ⟨r, hr⟩ : ∃ r, firstF m.c.toNat t (keysOf m) [] most L = r := ⟨_, rfl⟩
      rw [hr] at hfin
      simp only [hr] at hfd
      rw [hfin]
      obtain ⟨r1, r2, rl⟩ := r
      have H := Lib.hid (And.intro hsc (And.intro hi (And.intro hfd hfin))); clear hsc hi hfd hfin hp hok hlim hop hr hmost
      cases r2
      · skip
        go_enter Tryz.func38, Tryz.ntmps38
        go_wp2_with fail
        rw [← hW1]
        refine H.out.1.mono ?_
        rintro e' w2 ⟨rfl, hb2⟩
        have hz2 := hb2.size
        have hx2 : ∀ o, w2.cell? ⟨W.heap.size, o, none⟩ = (#[.int .i64 m.c, .int .i64 m.d, .int .i64 m.s, .int .i64 m.e, .int .i64 m.l, .slice a t.length c] : Array Value)[o]? := fun o => by rw [(bcell hb2).1 _ _ hz01, hc01]
        clear hc01 hh01
        go_wp2_with (go_at_call 106; refine (within_b _ _ _ _ _ H.out.2.1).mono ?_; rintro e' w' ⟨rfl, rfl⟩)
        refine (H.out.2.2.1 _ hb2).mono ?_
        rintro e' w3 ⟨⟨dv, XB, vs, LL, UU, fv, rfl, hX, hO⟩, hb3⟩
        have cX4 : w3.cell? ⟨XB, 8, none⟩ = some (.bool false) := by rw [cell_of_block hX]; rfl
        have hz3 := hb3.size
        have hO' : Out3 W.heap.size LL UU w3 dv vs rl := ⟨own_base hO.own (by omega), hO.each, fun k hk => by obtain ⟨h1, h2⟩ := hO.apart k hk; exact ⟨by omega, h2⟩⟩
        have HF := Lib.hid (And.intro hO' (hB01.trans ((hb2.trans (hb3.mono hz2)).mono (by omega)))); clear hX hO hb3 hx2 hO'
        obtain ⟨da, dc, rfl, _, _⟩ := HF.out.1.form
        go_wp2_with fail
        go_ret2
        exact ⟨⟨_, _, _, _, rfl, HF.out.1⟩, HF.out.2⟩
      · skip
        go_enter Tryz.func38, Tryz.ntmps38
        go_wp2_with fail
        rw [← hW1]
        refine H.out.1.mono ?_
        rintro e' w2 ⟨rfl, hb2⟩
        have hz2 := hb2.size
        have hx2 : ∀ o, w2.cell? ⟨W.heap.size, o, none⟩ = (#[.int .i64 m.c, .int .i64 m.d, .int .i64 m.s, .int .i64 m.e, .int .i64 m.l, .slice a t.length c] : Array Value)[o]? := fun o => by rw [(bcell hb2).1 _ _ hz01, hc01]
        clear hc01 hh01
        go_wp2_with (go_at_call 106; refine (within_b _ _ _ _ _ H.out.2.1).mono ?_; rintro e' w' ⟨rfl, rfl⟩)
        refine (H.out.2.2.1 _ hb2).mono ?_
        rintro e' w3 ⟨⟨dv, XB, vs, LL, UU, fv, rfl, hX, hO⟩, hb3⟩
        have cX4 : w3.cell? ⟨XB, 8, none⟩ = some (.bool true) := by rw [cell_of_block hX]; rfl
        have HF := Lib.hid (hB01.trans ((hb2.trans (hb3.mono hz2)).mono (by omega)))
        obtain ⟨da, dc, rfl, _, _⟩ := hO.form
        clear hX hO hb3 hx2
        go_wp2_with fail
        go_ret2
        exact ⟨⟨_, _, _, _, rfl, Out3.nil⟩, HF.out⟩
  · have hfin : desAns m t most limit = ([], searchC m t [] limit) := by unfold desAns; rw [if_pos hp]
    have e1 : (searchC m t [] limit != 0) = true := by simp [hp]
    rw [hfin]
    have H := Lib.hid (And.intro hsc hfin); clear hsc hfin hp
    generalize searchC m t [] limit = pc at *
    go_enter Tryz.func38, Tryz.ntmps38
    go_wp2_with fail
    rw [← hW1]
    refine H.out.1.mono ?_
    rintro e' w2 ⟨rfl, hb2⟩
    have hz2 := hb2.size
    have hx2 : ∀ o, w2.cell? ⟨W.heap.size, o, none⟩ = (#[.int .i64 m.c, .int .i64 m.d, .int .i64 m.s, .int .i64 m.e, .int .i64 m.l, .slice a t.length c] : Array Value)[o]? := fun o => by rw [(bcell hb2).1 _ _ hz01, hc01]
    clear hc01 hh01
    clear hx2
    go_wp2_with fail
    go_ret2
    exact ⟨⟨_, _, _, _, rfl, Out3.nil⟩, hB01.trans (hb2.mono (by omega))⟩
end Go.Proofs.YtikdbjaimcciiaaGreat
