/- The first designs of a system: the reference. No conditions. -/
import Derived.Test.YtikdbjaimcciiaaGreatDesO
import Derived.Test.YtikdbjaimcciiaaGreatMark3
namespace Go.Proofs.YtikdbjaimcciiaaGreat
open Go.RowKit
set_option linter.unusedVariables false
set_option linter.unusedSimpArgs false

theorem partC_nil {m : Mk} {t : List (List Int)} : partC m t [] = if isSys m t = false then 1 else 0 := by
  unfold partC
  have h1 : allKeys m [] = true := allKeys_iff.2 fun k hk => by simp at hk
  rw [h1]
  simp
theorem searchC_nil {m : Mk} {t : List (List Int)} {limit : Int} : searchC m t [] limit = if isSys m t = false then 1 else if inB limit 0 4000 = false then 2 else 0 := by
  have hf : (falseL m.c.toNat t []).length = 0 := rfl
  unfold searchC
  rw [partC_nil]
  cases hs : isSys m t
  · simp
  · cases hi : inB limit 0 4000
    · have h1 : ¬ (0 ≤ limit ∧ limit ≤ 4000) := fun h => by rw [inB_iff.2 h] at hi; cases hi
      simp [h1]
    · have h1 := inB_iff.1 hi
      simp [h1, hf]
set_option maxRecDepth 100000 in
theorem l17Code_any {S : Nat → Prop} (m : Mk) (u : Value) (t : List (List Int)) (limit : Int) (W : World) (h : V2 S W u t) :
    Calls Tryz.prog 115 #[.agg #[.int .i64 m.c, .int .i64 m.d, .int .i64 m.s, .int .i64 m.e, .int .i64 m.l, u], .int .i64 limit] W fun e' w' => e' = .returned (.int .i64 (searchC m t [] limit)) ∧ Below W.heap.size W w' := by
  obtain ⟨a, c, rfl, hmx⟩ := h.form
  obtain ⟨W1, hW1, hB01, hz01, HZ01, hc01, hh01⟩ := box_facts W #[.int .i64 m.c, .int .i64 m.d, .int .i64 m.s, .int .i64 m.e, .int .i64 m.l, .slice a t.length c] 28
  have hV1 : V2 (fun _ => True) W1 (.slice a t.length c) t := (h.below hB01).any
  rw [searchC_nil]
  cases hs : isSys m t
  · have Hs := Lib.hid hs; clear hs
    go_enter Tryz.func115, Tryz.ntmps115
    go_wp2_with fail
    rw [← hW1]
    refine (isSystemR_b m _ t _ _ Hs.out hV1).mono ?_
    rintro e' w2 ⟨rfl, hb2⟩
    clear hc01 hh01
    go_wp2_with fail
    go_ret
    exact ⟨rfl, hB01.trans (hb2.mono (by omega))⟩
  · have Hs := Lib.hid hs; clear hs
    cases hi : inB limit 0 4000
    · have Hi := Lib.hid hi; clear hi
      go_enter Tryz.func115, Tryz.ntmps115
      go_wp2_with fail
      rw [← hW1]
      refine (isSystemR_b m _ t _ _ Hs.out hV1).mono ?_
      rintro e' w2 ⟨rfl, hb2⟩
      clear hc01 hh01
      go_wp2_with (go_at_call 102; refine (l01In_b _ _ _ _ _ Hi.out).mono ?_; rintro e' w' ⟨rfl, rfl⟩)
      go_ret
      exact ⟨rfl, hB01.trans (hb2.mono (by omega))⟩
    · have Hi := Lib.hid hi; clear hi
      go_enter Tryz.func115, Tryz.ntmps115
      go_wp2_with fail
      rw [← hW1]
      refine (isSystemR_b m _ t _ _ Hs.out hV1).mono ?_
      rintro e' w2 ⟨rfl, hb2⟩
      clear hc01 hh01
      go_wp2_with (go_at_call 102; refine (l01In_b _ _ _ _ _ Hi.out).mono ?_; rintro e' w' ⟨rfl, rfl⟩)
      go_ret
      exact ⟨rfl, hB01.trans (hb2.mono (by omega))⟩
theorem Out3.old3 {B : Nat} {L U : Nat → Nat} {w : World} {v : Value} {vs : List Value} {ds : List (List (List Int))} (h : Out3 B L U w v vs ds) : V3 (fun b => b < w.heap.size) w v ds := (XR3.of_Out3 h).v3.mono (fun b _ h => h) (fun _ _ _ => rfl)
set_option maxRecDepth 100000 in
set_option maxHeartbeats 1000000 in
theorem DesignsOfR_any {S : Nat → Prop} (m : Mk) (u : Value) (t : List (List Int)) (most limit : Int) (W : World) (h : V2 S W u t) :
    Calls Tryz.prog 37 #[.agg #[.int .i64 m.c, .int .i64 m.d, .int .i64 m.s, .int .i64 m.e, .int .i64 m.l, u], .int .i64 most, .int .i64 limit] W fun e' w' => ∃ v', e' = .returned (.tuple #[v', .int .i64 (desAns m t most limit).2]) ∧ V3 (fun b => b < w'.heap.size) w' v' (desAns m t most limit).1 ∧ Below W.heap.size W w' := by
  obtain ⟨a, c, rfl, hmx⟩ := h.form
  obtain ⟨W1, hW1, hB01, hz01, HZ01, hc01, hh01⟩ := box_facts W #[.int .i64 m.c, .int .i64 m.d, .int .i64 m.s, .int .i64 m.e, .int .i64 m.l, .slice a t.length c] 28
  have hV1 : V2 (fun _ => True) W1 (.slice a t.length c) t := (h.below hB01).any
  have hsc := l17Code_any m _ t limit W1 hV1
  by_cases hp : searchC m t [] limit = 0
  · obtain ⟨hok, hlim, hop⟩ := searchC_ok.1 hp
    rw [hp] at hsc
    obtain ⟨L, rfl⟩ : ∃ L : Nat, limit = (L : Int) := ⟨limit.toNat, by omega⟩
    cases hi : inB most 0 10
    · have hfin : desAns m t most (L : Int) = ([], 2) := by unfold desAns; rw [if_neg (by rw [hp]; simp), if_pos hi]
      rw [hfin]
      have H := Lib.hid (And.intro hsc (And.intro hi hfin)); clear hsc hi hfin hp hok hlim hop
      go_enter Tryz.func37, Tryz.ntmps37
      go_wp2_with fail
      rw [← hW1]
      refine H.out.1.mono ?_
      rintro e' w2 ⟨rfl, hb2⟩
      have hz2 := hb2.size
      have hx2 : ∀ o, w2.cell? ⟨W.heap.size, o, none⟩ = (#[.int .i64 m.c, .int .i64 m.d, .int .i64 m.s, .int .i64 m.e, .int .i64 m.l, .slice a t.length c] : Array Value)[o]? := fun o => by rw [(bcell hb2).1 _ _ hz01, hc01]
      clear hc01 hh01
      go_wp2_with (go_at_call 102; refine (l01In_b _ _ _ _ _ H.out.2.1).mono ?_; rintro e' w' ⟨rfl, rfl⟩)
      go_ret2
      exact ⟨_, rfl, (Out3.nil (B := 0)).old3, hB01.trans (hb2.mono (by omega))⟩
    · have hmost := inB_iff.1 hi
      have hfin : desAns m t most (L : Int) = if (firstF m.c.toNat t (keysOf m) [] most L).2.1 = true then ([], 3) else ((firstF m.c.toNat t (keysOf m) [] most L).2.2, 0) := by
        unfold desAns; rw [if_neg (by rw [hp]; simp), if_neg (by rw [hi]; decide)]; rfl
      have hdes := firstF_des (n := m.c.toNat) (most := most) (limit := L) hok
      have hfew := firstF_few (m := m) (n := m.c.toNat) (t := t) (cuts := []) (most := most) (limit := L) hmost.1
      have hfd := fun w (hb : Below W1.heap.size W1 w) => l17Run_any m (.slice a t.length c) (.slice none 0 0) t [] most L w (hV1.below hb) (V2.nil6 (S := fun _ => True)) (fun _ => .inl rfl) hok (by omega) (by omega)
      obtain ⟨r, hr⟩ : ∃ r, firstF m.c.toNat t (keysOf m) [] most L = r := ⟨_, rfl⟩
      rw [hr] at hfin hdes hfew
      simp only [hr] at hfd
      rw [hfin]
      obtain ⟨r1, r2, rl⟩ := r
      have hrl : rl.length ≤ 10 := by have h1 : (rl.length : Int) ≤ most := hfew; omega
      have hdes : ∀ x ∈ rl, DesOk m t x := hdes
      have H := Lib.hid (And.intro hsc (And.intro hi (And.intro hfd (And.intro hdes hfin)))); clear hsc hi hfd hfin hp hok hlim hop hr hmost hdes hfew
      cases r2
      · show Calls _ _ _ _ fun e' w' => ∃ v', e' = .returned (.tuple #[v', .int .i64 0]) ∧ V3 (fun b => b < w'.heap.size) w' v' rl ∧ Below W.heap.size W w'
        go_enter Tryz.func37, Tryz.ntmps37
        go_wp2_with fail
        rw [← hW1]
        refine H.out.1.mono ?_
        rintro e' w2 ⟨rfl, hb2⟩
        have hz2 := hb2.size
        have hx2 : ∀ o, w2.cell? ⟨W.heap.size, o, none⟩ = (#[.int .i64 m.c, .int .i64 m.d, .int .i64 m.s, .int .i64 m.e, .int .i64 m.l, .slice a t.length c] : Array Value)[o]? := fun o => by rw [(bcell hb2).1 _ _ hz01, hc01]
        clear hc01 hh01
        go_wp2_with (go_at_call 102; refine (l01In_b _ _ _ _ _ H.out.2.1).mono ?_; rintro e' w' ⟨rfl, rfl⟩)
        refine (H.out.2.2.1 _ hb2).mono ?_
        rintro e' w3 ⟨RB, fv, rfl, hG, hb3⟩
        have hBW3 : Below W.heap.size W w3 := hB01.trans ((hb2.trans (hb3.mono hz2)).mono (by omega))
        have hz3 := hBW3.size
        obtain ⟨fa, fc, rfl, _, _⟩ := hG.form
        have cX9 : w3.cell? ⟨RB, 9, none⟩ = some (.bool false) := by rw [hG.cell]; rfl
        have hO0 := Out3.start w3 w3.heap.size (Nat.le_refl _)
        have HG := Lib.hid (And.intro hG (And.intro hBW3 hO0)); clear hG hBW3 hO0 hb3 hx2
        go_wp2_with fail
        go_loopw [10, 11] (fun ou i wr => ∃ (k : Nat) (vs : List Value) (LL UU : Nat → Nat), k ≤ rl.length ∧ i = .int .i64 (k : Int) ∧ Out3 w3.heap.size LL UU wr ou vs (rl.take k) ∧ Below w3.heap.size w3 wr ∧ Below W.heap.size W wr) (fun _ i _ => rl.length - (intOf i).toNat)
        case atStart => exact ⟨0, [], _, _, Nat.zero_le _, rfl, HG.out.2.2, (Below.refl _ _).alloc (Nat.le_refl _) _, HG.out.2.1.alloc HG.out.2.1.size _⟩
        case round =>
          obtain ⟨k, vs, LL, UU, hk, rfl, hO, hB, hBW⟩ := hrel
          have hzr := hB.size
          have hzW := hBW.size
          have hGr := HG.out.1.below hB
          have hx : ∀ o, wr.cell? ⟨RB, o, none⟩ = (#[.int .i64 m.c, .int .i64 m.d, .int .i64 m.s, .int .i64 m.e, .int .i64 m.l, .slice a t.length c, .int .i64 (L : Int), .int .i64 most, .int .i64 (r1 : Int), .bool false, .slice fa rl.length fc] : Array Value)[o]? := fun o => by rw [hGr.cell]; rfl
          by_cases hkk : k < rl.length
          · obtain ⟨vs0, hvs, hvs2⟩ := hGr.own
            obtain ⟨g, cap, e, _, _⟩ := own_some hvs (by show 1 ≤ rl.length; omega)
            obtain ⟨rv, h1, h2⟩ := hvs2 k hkk
            simp only [Value.slice.injEq] at e
            obtain ⟨rfl, _, rfl⟩ := e
            have hcc : wr.cell? ⟨g, k, none⟩ = some rv := by
              have h3 := hvs.cells (g := g) rfl k rv h1
              have hadd : (⟨g, 0, none⟩ : Addr).add k = ⟨g, 0 + k, none⟩ := by unfold Addr.add; split <;> simp_all
              rw [hadd, Nat.zero_add] at h3
              exact h3
            have h2 : V2 _ wr rv (getll rl k) := h2
            have hdk := (H.out.2.2.2.1 _ (getll_mem hkk)).few
            obtain ⟨ra, rc, rfl, _⟩ := h2.form
            have hll := l15Lists_any _ (getll rl k) wr h2 (by omega) (fun j hj => ⟨by have := (hdk.2 j hj).1; omega, (hdk.2 j hj).2⟩)
            have hst : rl.take (k + 1) = rl.take k ++ [getll rl k] := take_getll hkk
            have hlt : (rl.take k).length ≤ 10 := by rw [List.length_take]; omega
            obtain ⟨pre, hpre⟩ : ∃ p, rl.take k = p := ⟨_, rfl⟩
            rw [hpre] at hO hst hlt
            obtain ⟨oa, oc, rfl, _, _⟩ := hO.form
            have HO := Lib.hid (And.intro hO (And.intro hll (And.intro hst (And.intro hB hBW)))); clear hO hll hst hpre hGr h1 h2 hvs hvs2 hdk hB hBW
            go_wp2_with fail
            refine HO.out.2.1.mono ?_
            rintro e' w4 ⟨v4, rfl, ⟨hF4, _⟩, hb4⟩
            obtain ⟨a4, c4, rfl, _⟩ := hF4.v2.form
            have hO4 := HO.out.1.own
            have hown4 := own_keep hO4 hb4
            have hz4 := hb4.size
            have HF4 := Lib.hid (And.intro hF4 hb4); clear hF4 hb4 hO4
            go_wp2_with (at_builtin; refine wp_app1 _ rfl _ _ 54 rfl w3.heap.size 26 (.slice none 0 0) 24 Tryz.underlying54 inf_intss rfl _ _ _ rfl hown4 (.slice a4 (getll rl k).length c4) _ rfl rfl (by omega) (by omega) (by omega) ?_; intro v1 w1 hown1 hgrow1 hblk1 hB1)
            obtain ⟨hP, _⟩ := HO.out.1.push hzr HF4.out.2 HF4.out.1 hown1 hgrow1 hblk1
            go_roundw
            case rel => exact ⟨k + 1, _, _, _, by omega, by go_num, by rw [HO.out.2.2.1]; exact hP, (HO.out.2.2.2.1.trans (HF4.out.2.mono hzr)).trans hB1, (HO.out.2.2.2.2.trans (HF4.out.2.mono hzW)).trans (hB1.mono hz3)⟩
            case measure => simp [intOf]; omega
          · obtain rfl : k = rl.length := by omega
            rw [List.take_length] at hO
            obtain ⟨oa, oc, rfl, _, _⟩ := hO.form
            have HO := Lib.hid (And.intro hO.old3 hBW); clear hO hGr hB hBW
            go_wp2_with fail
            go_ret2
            exact ⟨_, rfl, HO.out.1, HO.out.2⟩
      · skip
        go_enter Tryz.func37, Tryz.ntmps37
        go_wp2_with fail
        rw [← hW1]
        refine H.out.1.mono ?_
        rintro e' w2 ⟨rfl, hb2⟩
        have hz2 := hb2.size
        have hx2 : ∀ o, w2.cell? ⟨W.heap.size, o, none⟩ = (#[.int .i64 m.c, .int .i64 m.d, .int .i64 m.s, .int .i64 m.e, .int .i64 m.l, .slice a t.length c] : Array Value)[o]? := fun o => by rw [(bcell hb2).1 _ _ hz01, hc01]
        clear hc01 hh01
        go_wp2_with (go_at_call 102; refine (l01In_b _ _ _ _ _ H.out.2.1).mono ?_; rintro e' w' ⟨rfl, rfl⟩)
        refine (H.out.2.2.1 _ hb2).mono ?_
        rintro e' w3 ⟨RB, fv, rfl, hG, hb3⟩
        have cX9 : w3.cell? ⟨RB, 9, none⟩ = some (.bool true) := by rw [hG.cell]; rfl
        have HF := Lib.hid (hB01.trans ((hb2.trans (hb3.mono hz2)).mono (by omega)))
        clear hG hb3 hx2
        go_wp2_with fail
        go_ret2
        exact ⟨_, rfl, (Out3.nil (B := 0)).old3, HF.out⟩
  · have hfin : desAns m t most limit = ([], searchC m t [] limit) := by unfold desAns; rw [if_pos hp]
    have e1 : (searchC m t [] limit != 0) = true := by simp [hp]
    have e2 : (searchC m t [] limit == 0) = false := by simp [hp]
    rw [hfin]
    have H := Lib.hid (And.intro hsc hfin); clear hsc hfin hp
    generalize searchC m t [] limit = pc at *
    go_enter Tryz.func37, Tryz.ntmps37
    go_wp2_with fail
    rw [← hW1]
    refine H.out.1.mono ?_
    rintro e' w2 ⟨rfl, hb2⟩
    have hz2 := hb2.size
    have hx2 : ∀ o, w2.cell? ⟨W.heap.size, o, none⟩ = (#[.int .i64 m.c, .int .i64 m.d, .int .i64 m.s, .int .i64 m.e, .int .i64 m.l, .slice a t.length c] : Array Value)[o]? := fun o => by rw [(bcell hb2).1 _ _ hz01, hc01]
    clear hc01 hh01
    clear hx2
    go_wp2_with fail
    go_ret2
    exact ⟨_, rfl, (Out3.nil (B := 0)).old3, hB01.trans (hb2.mono (by omega))⟩
def F3 (B : Nat) (w : World) (v : Value) (ds : List (List (List Int))) : Prop := ∃ vs L U, Out3 B L U w v vs ds
theorem XR3.of_F3 {B : Nat} {w : World} {v : Value} {ds : List (List (List Int))} (h : F3 B w v ds) : XR3 B w.heap.size w v ds := by
  obtain ⟨vs, L, U, h⟩ := h; exact XR3.of_Out3 h
theorem DesignsOf_any {S : Nat → Prop} (m : Mk) (u : Value) (t : List (List Int)) (most limit : Int) (W : World) (h : V2 S W u t) :
    Calls Tryz.prog 38 #[.agg #[.int .i64 m.c, .int .i64 m.d, .int .i64 m.s, .int .i64 m.e, .int .i64 m.l, u], .int .i64 most, .int .i64 limit] W fun e' w' => ∃ v', e' = .returned (.tuple #[v', .int .i64 (desAns m t most limit).2]) ∧ F3 W.heap.size w' v' (desAns m t most limit).1 ∧ Below W.heap.size W w' :=
  (DesignsOf_x m u t most limit W h).mono fun _ _ ⟨⟨v', vs, L, U, h1, h2⟩, h3⟩ => ⟨v', h1, ⟨vs, L, U, h2⟩, h3⟩
end Go.Proofs.YtikdbjaimcciiaaGreat
