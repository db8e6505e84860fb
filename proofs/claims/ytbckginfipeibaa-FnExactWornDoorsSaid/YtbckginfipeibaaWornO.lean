/- The doors that a worn key may open. No conditions. -/
import Derived.Test.YtbckginfipeibaaWorn
import Derived.Test.YtbckginfipeibaaOpenrs
namespace Go.Proofs.Ytbckginfipeibaa
open Go.RowKit
set_option linter.unusedVariables false
set_option linter.unusedSimpArgs false

theorem lock_ok {m : Mk} {t cuts : List (List Int)} {d : Nat} (hp : designC m t cuts = 0) (hd : d < (getl t 0).length) : LockOk m (lockR m.c.toNat t cuts d) := by
  have hf := (design_fits hp).1
  have hct := (design_fits hp).2
  have hmc := mc_nat hf.ok
  have hs := lock_sets (n := m.c.toNat) (d := d) hf hmc
  have hlen : (lockR m.c.toNat t cuts d).length = m.c.toNat := by rw [lockR, hullR_len]
  have hsys := (cutC_ok.1 (designC_ok hp).1).1
  have hopen := upAll_iff.1 (isSys_parts hsys).2.2 d hd
  obtain ⟨i0, hi0, hg⟩ := doorTo_iff.1 hopen
  have hmem : getl cuts i0 ∈ doorCuts t cuts d cuts.length := by
    rw [doorCuts_map, List.mem_map]
    exact ⟨(i0 : Int), mem_rowsF.2 ⟨i0, by omega, rfl, hg⟩, by simp⟩
  refine ⟨by omega, fun i hi => ?_, fun i hi => riseTo_set (hs i).1 (hs i).2 _ (Nat.le_refl _)⟩
  intro e
  have h0 : geti (getl cuts i0) i ∈ getl (lockR m.c.toNat t cuts d) i := by
    rw [lockR, hullR_get (by omega), (diffI_sort _).2, colOf, List.mem_map]
    exact ⟨_, hmem, rfl⟩
  rw [List.eq_nil_of_length_eq_zero e] at h0
  cases h0
/-- The doors among the first k that a worn key may open. -/
def wornTo (wear tol : Int) (locks : List (List (List Int))) (key : List Int) : Nat → List Int
  | 0 => []
  | k + 1 => if mayTo wear tol (getll locks k) key key.length = true then wornTo wear tol locks key k ++ [(k : Int)] else wornTo wear tol locks key k
theorem wornTo_len (wear tol : Int) (locks : List (List (List Int))) (key : List Int) : ∀ k, (wornTo wear tol locks key k).length ≤ k
  | 0 => Nat.le_refl _
  | k + 1 => by have := wornTo_len wear tol locks key k; unfold wornTo; split <;> simp <;> omega
def wornOk (m : Mk) (key : List Int) (wear tol : Int) : Bool := inB wear 0 19 && inB tol 0 4 && isKeyB m key
def wornAns (m : Mk) (t cuts : List (List Int)) (key : List Int) (wear tol : Int) : List Int × Int :=
  if designC m t cuts ≠ 0 then ([], designC m t cuts) else if wornOk m key wear tol = false then ([], 2) else (wornTo wear tol (locksTo m.c.toNat t cuts (getl t 0).length) key (getl t 0).length, 0)
theorem wornAns_len (m : Mk) (t cuts : List (List Int)) (key : List Int) (wear tol : Int) : (wornAns m t cuts key wear tol).1.length ≤ 1048576 := by
  unfold wornAns
  split
  · simp
  · rename_i hp
    have := (design_fits (Classical.not_not.1 hp)).1.doors
    split
    · simp
    · have h2 := wornTo_len wear tol (locksTo m.c.toNat t cuts (getl t 0).length) key (getl t 0).length
      show (wornTo _ _ _ _ _).length ≤ _
      omega
theorem F1.nil3 {B : Nat} {w : World} : F1 B w (.slice none 0 0) [] := ⟨0, ⟨none, 0, rfl, Nat.le_refl _, Nat.zero_le _, fun hn => absurd rfl hn⟩, fun hn => absurd rfl hn⟩
set_option maxRecDepth 100000 in
set_option maxHeartbeats 2000000 in
theorem WornDoors_any {S S' S2 : Nat → Prop} (m : Mk) (u v kv : Value) (t cuts : List (List Int)) (key : List Int) (wear tol : Int) (W : World) (h : V2 S W u t) (hc : V2 S' W v cuts) (hk : V1 S2 W kv key) :
    Calls Try.prog 34 #[.agg #[.int .i64 m.c, .int .i64 m.d, .int .i64 m.s, .int .i64 m.e, .int .i64 m.l, u], v, kv, .int .i64 wear, .int .i64 tol] W fun e' w' => ∃ v', e' = .returned (.tuple #[v', .int .i64 (wornAns m t cuts key wear tol).2]) ∧ F1 W.heap.size w' v' (wornAns m t cuts key wear tol).1 ∧ Below W.heap.size W w' := by
  obtain ⟨ka, kc, rfl, hkx⟩ := hk.form
  obtain ⟨a, c, rfl, hmx⟩ := h.form
  obtain ⟨a', c', rfl, hmx'⟩ := hc.form
  obtain ⟨W1, hW1, hB01, hz01, HZ01, hc01, hh01⟩ := box_facts W #[.int .i64 m.c, .int .i64 m.d, .int .i64 m.s, .int .i64 m.e, .int .i64 m.l, .slice a t.length c] 34
  have hV1 := (h.below hB01).any
  have hC1 := (hc.below hB01).any
  have hcode := designCode_any m _ _ t cuts W1 hV1 hC1
  by_cases hp : designC m t cuts = 0
  · rw [hp] at hcode
    have hf := (design_fits hp).1
    have hmc := mc_nat hf.ok
    have hdoors := hf.doors
    have hkl := keysOf_length hf.ok
    have hol := outsOf_length cuts (keysOf m)
    obtain ⟨locks, hlocks⟩ : ∃ x, x = locksTo m.c.toNat t cuts (getl t 0).length := ⟨_, rfl⟩
    obtain ⟨D, hD⟩ : ∃ D, (getl t 0).length = D := ⟨_, rfl⟩
    have hll : locks.length = D := by rw [hlocks, locksTo_len, hD]
    have hK1 := (hk.below hB01).any
    have hlok : ∀ k, k < locks.length → LockOk m (getll locks k) := fun k hk => by
      rw [hlocks, locksTo_get (by rw [hll] at hk; omega)]; exact lock_ok hp (by rw [hll] at hk; omega)
    have hsm : ∀ k, k < locks.length → ∀ i, Small (getl (getll locks k) i) := fun k hk i x hx => by
      rw [hlocks, locksTo_get (by rw [hll] at hk; omega)] at hx
      have := (lock_sets (n := m.c.toNat) (d := k) hf hmc i).2 x hx
      have := (Mk.ok_iff.1 hf.ok).2.1
      omega
    have hpl := partLocks_any (S := fun _ => True) (S' := fun _ => True) m (.slice a t.length c) (.slice a' cuts.length c') t cuts m.c.toNat
    rw [← hlocks] at hpl
    rw [hD] at hdoors
    have Hcode := Lib.hid hcode; clear hcode
    cases hok : wornOk m key wear tol
    · have hfin : wornAns m t cuts key wear tol = ([], 2) := by unfold wornAns; rw [if_neg (by rw [hp]; decide), if_pos hok]
      rw [hfin]
      have Hf := Lib.hid (And.intro hf (And.intro hmc (And.intro hpl (And.intro hlok (And.intro hsm hok))))); clear hf hmc hpl hlok hsm hok hfin
      have Hp := Lib.hid (And.intro hp (And.intro hlocks (And.intro hD hll))); clear hp hlocks hD hll hol hkl
      go_enter Try.func34, Try.ntmps34
      go_wp2_with fail
      rw [← hW1]
      refine Hcode.out.mono ?_
      rintro e' w2 ⟨rfl, hb2⟩
      have hz2 : W.heap.size < w2.heap.size := by have := hb2.size; omega
      have hx2 : ∀ o, w2.cell? ⟨W.heap.size, o, none⟩ = (#[.int .i64 m.c, .int .i64 m.d, .int .i64 m.s, .int .i64 m.e, .int .i64 m.l, .slice a t.length c] : Array Value)[o]? := fun o => by rw [(bcell hb2).1 _ _ hz01, hc01]
      have Hc01 := Lib.hid (And.intro hc01 hW1); clear hc01 hW1 hh01
      obtain ⟨w3, hw3, hb23, hz23, HZ23, hc23, hh23⟩ := box_facts w2 #[.slice ka key.length kc] 29
      have hb13 := hb2.trans (hb23.mono hb2.size)
      have hV2 : V2 (fun _ => True) w3 (.slice (some ⟨w2.heap.size, 0, none⟩) 1 1) [key] := V2.one hh23 (hK1.below hb13) trivial
      have hwc := wearCode_any m Hf.out.1.ok _ _ [] key wear tol w3 (⟨none, 0, rfl, Nat.le_refl _, Nat.zero_le _, fun k hk => by simp at hk⟩ : V3 (fun _ => True) w3 (.slice none 0 0) []) (fun k hk => by simp at hk) hV2
      have Hwc := Lib.hid hwc; clear hwc hV2 hc23 hh23
      go_wp2_with fail
      rw [← hw3]
      have hx3 : ∀ o, w3.cell? ⟨W.heap.size, o, none⟩ = (#[.int .i64 m.c, .int .i64 m.d, .int .i64 m.s, .int .i64 m.e, .int .i64 m.l, .slice a t.length c] : Array Value)[o]? := fun o => by rw [(bcell hb23).1 _ _ hz2, hx2]
      have Hw3 := Lib.hid (And.intro hw3 hx2); clear hw3 hx2
      refine Hwc.out.mono ?_
      rintro e' w4 ⟨rfl, hb34⟩
      rw [if_neg (by have := Hf.out.2.2.2.2.2; unfold wornOk at this; rw [this]; decide)]
      clear hx3
      go_wp2_with fail
      go_ret2
      exact ⟨_, rfl, F1.nil3, hB01.trans ((hb13.trans (hb34.mono hb13.size)).mono (by omega))⟩
    · have hfin : wornAns m t cuts key wear tol = (wornTo wear tol locks key D, 0) := by unfold wornAns; rw [if_neg (by rw [hp]; decide), if_neg (by rw [hok]; decide), ← hlocks, hD]
      rw [hfin]
      have hok3 := hok
      unfold wornOk at hok3
      rw [Bool.and_eq_true, Bool.and_eq_true] at hok3
      have Hf := Lib.hid (And.intro hf (And.intro hmc (And.intro hpl (And.intro hlok (And.intro hsm (And.intro hok hok3)))))); clear hf hmc hpl hlok hsm hok hok3 hfin
      have hl12 : locks.length ≤ 12 := by omega
      rw [← hll]
      have Hp := Lib.hid (And.intro hp (And.intro hlocks (And.intro hD hll))); clear hp hlocks hD hll hol hkl hdoors
      go_enter Try.func34, Try.ntmps34
      go_wp2_with fail
      rw [← hW1]
      refine Hcode.out.mono ?_
      rintro e' w2 ⟨rfl, hb2⟩
      have hz2 : W.heap.size < w2.heap.size := by have := hb2.size; omega
      have hx2 : ∀ o, w2.cell? ⟨W.heap.size, o, none⟩ = (#[.int .i64 m.c, .int .i64 m.d, .int .i64 m.s, .int .i64 m.e, .int .i64 m.l, .slice a t.length c] : Array Value)[o]? := fun o => by rw [(bcell hb2).1 _ _ hz01, hc01]
      have Hc01 := Lib.hid (And.intro hc01 hW1); clear hc01 hW1 hh01
      obtain ⟨w3, hw3, hb23, hz23, HZ23, hc23, hh23⟩ := box_facts w2 #[.slice ka key.length kc] 29
      have hb13 := hb2.trans (hb23.mono hb2.size)
      have hV2 : V2 (fun _ => True) w3 (.slice (some ⟨w2.heap.size, 0, none⟩) 1 1) [key] := V2.one hh23 (hK1.below hb13) trivial
      have hwc := wearCode_any m Hf.out.1.ok _ _ [] key wear tol w3 (⟨none, 0, rfl, Nat.le_refl _, Nat.zero_le _, fun k hk => by simp at hk⟩ : V3 (fun _ => True) w3 (.slice none 0 0) []) (fun k hk => by simp at hk) hV2
      have Hwc := Lib.hid hwc; clear hwc hV2 hc23 hh23
      go_wp2_with fail
      rw [← hw3]
      have hx3 : ∀ o, w3.cell? ⟨W.heap.size, o, none⟩ = (#[.int .i64 m.c, .int .i64 m.d, .int .i64 m.s, .int .i64 m.e, .int .i64 m.l, .slice a t.length c] : Array Value)[o]? := fun o => by rw [(bcell hb23).1 _ _ hz2, hx2]
      have Hw3 := Lib.hid (And.intro hw3 hx2); clear hw3 hx2
      refine Hwc.out.mono ?_
      rintro e' w4 ⟨rfl, hb34⟩
      rw [if_pos (by have := Hf.out.2.2.2.2.2.1; unfold wornOk at this; exact this)]
      have hb14 := hb13.trans (hb34.mono hb13.size)
      have hz4 := hb34.size
      have hz14 := hb14.size
      have hx4 : ∀ o o1, (w4.alloc o1).cell? ⟨W.heap.size, o, none⟩ = (#[.int .i64 m.c, .int .i64 m.d, .int .i64 m.s, .int .i64 m.e, .int .i64 m.l, .slice a t.length c] : Array Value)[o]? := fun o o1 => by
        rw [(bcell ((Below.refl w4.heap.size w4).alloc (Nat.le_refl _) o1)).1 _ _ (by omega), (bcell hb34).1 _ _ (by omega), hx3]
      have hown0 := own_lit0 w4 w4.heap.size 2 1 (Nat.le_refl _)
      have hbA : Below w4.heap.size w4 (w4.alloc (.cells #[] 2)) := (Below.refl _ _).alloc (Nat.le_refl _) _
      have hb1A := hb14.trans (hbA.mono hz14)
      have hpc := Hf.out.2.2.1 _ Hf.out.1 Hf.out.2.1 (hV1.below hb1A) (hC1.below hb1A)
      have Hpc := Lib.hid hpc; clear hpc hx3
      go_wp2_with fail
      refine Hpc.out.mono ?_
      rintro e' wL ⟨lv, rfl, hLk0, hbL⟩
      have hLk1 : LkAt w4.heap.size wL.heap.size (.slice (some ⟨w4.heap.size, 0, none⟩) 0 0) wL lv locks := ⟨hLk0.mono (fun b h1 h2 => ⟨by simp at h1; omega, h2⟩) (fun _ _ _ => rfl), fun g hg => .inl (by cases hg; rfl), Nat.le_refl _⟩
      obtain ⟨la, lc, rfl, hlm⟩ := hLk0.form
      have hBL : Below w4.heap.size w4 wL := hbA.trans (hbL.mono (by simp))
      have hownL := own_chg hown0 (Chg.of_below (F := fun _ => False) hbL) (fun _ _ h => h)
      have HL := Lib.hid (And.intro hLk1 hownL); clear hLk1 hownL hown0 hLk0 hx4
      go_wp2_with fail
      go_loopw [14, 15, 16, 17, 18, 40] (fun ou _ _ _ _ i wr => ∃ k : Nat, k ≤ locks.length ∧ i = .int .i64 (k : Int) ∧ wr.ownsRow w4.heap.size 2 1 ou (wornTo wear tol locks key k).length ((wornTo wear tol locks key k).map (Value.int .i64)) ∧ LkAt w4.heap.size wL.heap.size ou wr (.slice la locks.length lc) locks ∧ Below w4.heap.size w4 wr) (fun _ _ _ _ _ i _ => locks.length - (intOf i).toNat)
      case atStart => exact ⟨0, Nat.zero_le _, rfl, HL.out.2, HL.out.1, hBL⟩
      case round =>
        obtain ⟨k, hkl, rfl, hown, hLk, hB⟩ := hrel
        have hdl := wornTo_len wear tol locks key k
        have hzW := hB.size
        by_cases hkk : k < locks.length
        · obtain ⟨b1, off1, a1, c1, rfl, _, hc1, hr1⟩ := hLk.1.cell hkk
          have hbB : Below wr.heap.size wr (wr.alloc (.cells #[.slice a1 (getll locks k).length c1] 79)) := (Below.refl _ _).alloc (Nat.le_refl _) _
          have hb1r := hb14.trans (hB.mono hz14)
          have hxr : ∀ o o1, (wr.alloc o1).cell? ⟨W.heap.size, o, none⟩ = (#[.int .i64 m.c, .int .i64 m.d, .int .i64 m.s, .int .i64 m.e, .int .i64 m.l, .slice a t.length c] : Array Value)[o]? := fun o o1 => by
            rw [(bcell ((Below.refl wr.heap.size wr).alloc (Nat.le_refl _) o1)).1 _ _ (by omega), (bcell hb1r).1 _ _ hz01, Hc01.out.1]
          have hmo := MayOpen_any m Hf.out.1.ok _ _ (getll locks k) key wear tol _ (hr1.below hbB) ((hK1.below hb1r).below hbB) (Hf.out.2.2.2.1 k hkk) (Hf.out.2.2.2.2.1 k hkk) Hf.out.2.2.2.2.2.2.2 Hf.out.2.2.2.2.2.2.1.1 Hf.out.2.2.2.2.2.2.1.2
          cases ho : mayTo wear tol (getll locks k) key key.length
          · have hst : wornTo wear tol locks key (k + 1) = wornTo wear tol locks key k := by rw [wornTo, ho]; rfl
            rw [ho] at hmo
            have Hst := Lib.hid (And.intro hst (And.intro hmo ho)); clear hst hmo ho
            go_wp2_with fail
            refine Hst.out.2.1.mono ?_
            rintro e' w5 ⟨rfl, hb5⟩
            have hb05 := hbB.trans (hb5.mono (by simp))
            have hown5 := own_chg hown (Chg.of_below (F := fun _ => False) hb05) (fun _ _ h => h)
            have Hfin := Lib.hid (And.intro hown5 (hLk.below hb05)); clear hown5 hLk hc1 hr1 hbB hown hxr
            go_wp2_with fail
            go_roundw
            case rel => exact ⟨k + 1, by omega, by go_num, by rw [Hst.out.1]; exact Hfin.out.1, Hfin.out.2, hB.trans (hb05.mono hzW)⟩
            case measure => simp [intOf]; omega
          · have hst : wornTo wear tol locks key (k + 1) = wornTo wear tol locks key k ++ [(k : Int)] := by rw [wornTo, ho]; rfl
            rw [ho] at hmo
            have Hst := Lib.hid (And.intro hst (And.intro hmo ho)); clear hst hmo ho
            go_wp2_with fail
            refine Hst.out.2.1.mono ?_
            rintro e' w5 ⟨rfl, hb5⟩
            have hb05 := hbB.trans (hb5.mono (by simp))
            have hz5 := hb05.size
            have hown5 := own_chg hown (Chg.of_below (F := fun _ => False) hb05) (fun _ _ h => h)
            have hLk5 := hLk.below hb05
            clear hc1 hr1 hbB hown hxr hLk
            go_wp2_with (at_builtin; refine wp_app1 _ rfl _ _ 29 rfl w4.heap.size 2 (.int .i64 0) 8 Try.underlying29 inf_int rfl _ _ _ rfl hown5 (.int .i64 k) _ rfl rfl (by omega) (by omega) (by omega) ?_; intro v1 w1 hown1 hgrow1 hblk1 hB1)
            have Hfin := Lib.hid (And.intro hown1 (hLk5.grown hgrow1 hblk1)); clear hown1 hLk5 hgrow1 hblk1
            go_roundw
            case rel => exact ⟨k + 1, by omega, by go_num, by rw [Hst.out.1, List.map_append, List.length_append]; exact Hfin.out.1, Hfin.out.2, (hB.trans (hb05.mono hzW)).trans hB1⟩
            case measure => simp [intOf]; omega
        · obtain rfl : k = locks.length := by omega
          have hfx := own_F1 (own_base (B' := W.heap.size) hown (by omega))
          have Hfx := Lib.hid hfx; clear hfx hown hLk
          go_wp2_with fail
          go_ret2
          exact ⟨_, rfl, Hfx.out, hB01.trans ((hb14.trans (hB.mono hz14)).mono (by omega))⟩
  · have hfin : wornAns m t cuts key wear tol = ([], designC m t cuts) := by unfold wornAns; rw [if_pos hp]; (try rfl)
    have e1 : (designC m t cuts != 0) = true := by simp [hp]
    rw [hfin]
    have Hp := Lib.hid (And.intro hp hfin); clear hp hfin
    generalize designC m t cuts = pc at *
    go_enter Try.func34, Try.ntmps34
    go_wp2_with fail
    rw [← hW1]
    refine hcode.mono ?_
    rintro e' w2 ⟨rfl, hb2⟩
    clear hc01 hh01
    go_wp2_with fail
    go_ret2
    exact ⟨_, rfl, F1.nil3, hB01.trans (hb2.mono (by omega))⟩
end Go.Proofs.Ytbckginfipeibaa
