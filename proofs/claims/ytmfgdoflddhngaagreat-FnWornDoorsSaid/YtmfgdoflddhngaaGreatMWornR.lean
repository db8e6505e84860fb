/- The doors that a worn key may open, as the reference gives them. No conditions. -/
import Derived.Test.YtmfgdoflddhngaaGreatMRise
import Derived.Test.YtmfgdoflddhngaaGreatMRowsOf
namespace Go.Proofs.YtmfgdoflddhngaaGreat
open Go.RowKit
set_option linter.unusedVariables false
set_option linter.unusedSimpArgs false

theorem keyW_ok {m : Mk} {t cuts : List (List Int)} {key : List Int} : keyC m t cuts key = 0 ↔ designC m t cuts = 0 ∧ isKeyB m key = true := by
  unfold keyC
  by_cases h : designC m t cuts = 0
  · rw [if_neg (by rw [h]; decide)]
    cases isKeyB m key <;> simp [h]
  · rw [if_pos h]; simp [h]
theorem keyW_no {m : Mk} {t cuts : List (List Int)} {key : List Int} (h : designC m t cuts ≠ 0) : keyC m t cuts key = designC m t cuts := by unfold keyC; rw [if_pos h]
theorem l08Numbers_b (wear tol : Int) (W : World) (r : Bool) (hr : (inB wear 0 19 && inB tol 0 4) = r) :
    Calls Tryz.prog 129 #[.int .i64 wear, .int .i64 tol] W fun e w' => e = .returned (.bool r) ∧ W = w' := by
  obtain ⟨x, hx⟩ : ∃ x, inB wear 0 19 = x := ⟨_, rfl⟩
  obtain ⟨y, hy⟩ : ∃ y, inB tol 0 4 = y := ⟨_, rfl⟩
  rw [hx, hy] at hr
  have H := Lib.hid (And.intro hx hy); clear hx hy
  cases x <;> cases y <;> (
    subst hr
    go_enter Tryz.func129, Tryz.ntmps129
    go_wp2_with (go_at_call 121; refine (l01In_any _ _ _ _).mono ?_; rintro e' w' ⟨rfl, rfl⟩; first | rw [H.out.1] | rw [H.out.2])
    go_ret
    exact ⟨rfl, rfl⟩)
theorem worn_parts {m : Mk} {key : List Int} {wear tol : Int} : wornOk m key wear tol = ((inB wear 0 19 && inB tol 0 4) && isKeyB m key) := rfl
set_option maxRecDepth 100000 in
set_option maxHeartbeats 2000000 in
theorem WornDoorsR_any {S S' S2 : Nat → Prop} (m : Mk) (u v kv : Value) (t cuts : List (List Int)) (key : List Int) (wear tol : Int) (W : World) (h : V2 S W u t) (hc : V2 S' W v cuts) (hk : V1 S2 W kv key) :
    Calls Tryz.prog 30 #[.agg #[.int .i64 m.c, .int .i64 m.d, .int .i64 m.s, .int .i64 m.e, .int .i64 m.l, u], v, kv, .int .i64 wear, .int .i64 tol] W fun e' w' => ∃ v', e' = .returned (.tuple #[v', .int .i64 (wornAns m t cuts key wear tol).2]) ∧ V1 (fun b => b < w'.heap.size) w' v' (wornAns m t cuts key wear tol).1 ∧ Below W.heap.size W w' := by
  obtain ⟨ka, kc, rfl, hkx⟩ := hk.form
  obtain ⟨a, c, rfl, hmx⟩ := h.form
  obtain ⟨a', c', rfl, hmx'⟩ := hc.form
  obtain ⟨W1, hW1, hB01, hz01, HZ01, hc01, hh01⟩ := box_facts W #[.int .i64 m.c, .int .i64 m.d, .int .i64 m.s, .int .i64 m.e, .int .i64 m.l, .slice a t.length c] 28
  have hV1 := (h.below hB01).any
  have hC1 := (hc.below hB01).any
  have hK1 := (hk.below hB01).any
  have hcode := l21Key_any m _ _ _ t cuts key W1 hV1 hC1 hK1
  obtain ⟨nb, hnb⟩ : ∃ nb, (inB wear 0 19 && inB tol 0 4) = nb := ⟨_, rfl⟩
  by_cases hkc : keyC m t cuts key = 0
  · rw [hkc] at hcode
    have hp := (keyW_ok.1 hkc).1
    have hik := (keyW_ok.1 hkc).2
    have hf := (design_fits hp).1
    have hmc := mc_nat hf.ok
    have hdoors := hf.doors
    obtain ⟨locks, hlocks⟩ : ∃ x, x = locksTo m.c.toNat t cuts (getl t 0).length := ⟨_, rfl⟩
    obtain ⟨D, hD⟩ : ∃ D, (getl t 0).length = D := ⟨_, rfl⟩
    have hll : locks.length = D := by rw [hlocks, locksTo_len, hD]
    have Hcode := Lib.hid hcode; clear hcode
    cases nb
    · have hok : wornOk m key wear tol = false := by rw [worn_parts, hnb]; rfl
      have hfin : wornAns m t cuts key wear tol = ([], 2) := by unfold wornAns; rw [if_neg (by rw [hp]; decide), if_pos hok]
      rw [hfin]
      have Hn := Lib.hid hnb; clear hnb hok hfin hp hik hf hmc hlocks hD hll hkc hdoors
      go_enter Tryz.func30, Tryz.ntmps30
      go_wp2_with fail
      rw [← hW1]
      refine Hcode.out.mono ?_
      rintro e' w2 ⟨rfl, hb2⟩
      have hz2 : W.heap.size < w2.heap.size := by have := hb2.size; omega
      have hx2 : ∀ o, w2.cell? ⟨W.heap.size, o, none⟩ = (#[.int .i64 m.c, .int .i64 m.d, .int .i64 m.s, .int .i64 m.e, .int .i64 m.l, .slice a t.length c] : Array Value)[o]? := fun o => by rw [(bcell hb2).1 _ _ hz01, hc01]
      have Hc01 := Lib.hid (And.intro hc01 hW1); clear hc01 hW1 hh01
      go_wp2_with (go_at_call 129; refine (l08Numbers_b _ _ _ _ Hn.out).mono ?_; rintro e' w' ⟨rfl, rfl⟩)
      go_ret2
      exact ⟨_, rfl, (F1.nil3 (B := 0)).v1.old, hB01.trans (hb2.mono (by omega))⟩
    · have hok : wornOk m key wear tol = true := by rw [worn_parts, hnb, hik]; rfl
      have hfin : wornAns m t cuts key wear tol = (wornTo wear tol locks key D, 0) := by unfold wornAns; rw [if_neg (by rw [hp]; decide), if_neg (by rw [hok]; decide), ← hlocks, hD]
      rw [hfin]
      have hki := isKey_iff.1 hik
      have hmk := Mk.ok_iff.1 hf.ok
      have hw9 : 0 ≤ wear ∧ wear ≤ 19 := inB_iff.1 (by have := hnb; rw [Bool.and_eq_true] at this; exact this.1)
      have hrg : ∀ i, i < key.length → 0 ≤ geti key i ∧ geti key i ≤ 7 := fun i hi => by have := hki.2.1 _ (geti_mem hi); omega
      have hlen : ∀ k, k < locks.length → key.length ≤ (getll locks k).length := fun k hk => by
        rw [hlocks]; rw [hlocks, locksTo_len] at hk; rw [lock_len hk]; have := hki.1; omega
      have hsm : ∀ k, k < locks.length → ∀ i, Small (getl (getll locks k) i) := fun k hk i x hx => by
        rw [hlocks, locksTo_get (by rw [hll] at hk; omega)] at hx
        have := (lock_sets (n := m.c.toNat) (d := k) hf hmc i).2 x hx
        omega
      have hpl := l15Locks_any (S := fun _ => True) (S' := fun _ => True) m (.slice a t.length c) (.slice a' cuts.length c') t cuts m.c.toNat
      rw [← hlocks] at hpl
      have hl12 : locks.length ≤ 12 := by omega
      rw [← hll]
      have Hf := Lib.hid (And.intro hf (And.intro hmc (And.intro hpl (And.intro hlen (And.intro hsm hrg))))); clear hf hmc hpl hlen hsm hrg
      have Hn := Lib.hid hnb; clear hnb hok hfin hp hik hlocks hD hll hkc hdoors hki hmk
      go_enter Tryz.func30, Tryz.ntmps30
      go_wp2_with fail
      rw [← hW1]
      refine Hcode.out.mono ?_
      rintro e' w2 ⟨rfl, hb2⟩
      have hz2 : W.heap.size < w2.heap.size := by have := hb2.size; omega
      have hx2 : ∀ o, w2.cell? ⟨W.heap.size, o, none⟩ = (#[.int .i64 m.c, .int .i64 m.d, .int .i64 m.s, .int .i64 m.e, .int .i64 m.l, .slice a t.length c] : Array Value)[o]? := fun o => by rw [(bcell hb2).1 _ _ hz01, hc01]
      have Hc01 := Lib.hid (And.intro hc01 hW1); clear hc01 hW1 hh01
      go_wp2_with (go_at_call 129; refine (l08Numbers_b _ _ _ _ Hn.out).mono ?_; rintro e' w' ⟨rfl, rfl⟩)
      refine (Hf.out.2.2.1 _ Hf.out.1 Hf.out.2.1 (hV1.below hb2) (hC1.below hb2)).mono ?_
      rintro e' wL ⟨lv, rfl, hLk0, hbL⟩
      have hLV := hLk0.mono (S' := fun b => b < wL.heap.size) (fun _ _ h => h) (fun _ _ _ => rfl)
      obtain ⟨la, lc, rfl, hlm⟩ := hLk0.form
      have hb1L := hb2.trans (hbL.mono hb2.size)
      have hzL := hb1L.size
      have hown0 := own_lit0 wL wL.heap.size 2 1 (Nat.le_refl _)
      have hbA : Below wL.heap.size wL (wL.alloc (.cells #[] 2)) := (Below.refl _ _).alloc (Nat.le_refl _) _
      have hKL := hK1.below hb1L
      clear hLk0 hx2
      go_wp2_with fail
      go_loopw [14, 15, 16, 17] (fun ou i _ _ wr => ∃ k : Nat, k ≤ locks.length ∧ i = .int .i64 (k : Int) ∧ wr.ownsRow wL.heap.size 2 1 ou (wornTo wear tol locks key k).length ((wornTo wear tol locks key k).map (Value.int .i64)) ∧ Below wL.heap.size wL wr) (fun _ i _ _ _ => locks.length - (intOf i).toNat)
      case atStart => exact ⟨0, Nat.zero_le _, rfl, hown0, hbA⟩
      case round =>
        obtain ⟨k, hkl, rfl, hown, hB⟩ := hrel
        have hdl := wornTo_len wear tol locks key k
        have hzW := hB.size
        by_cases hkk : k < locks.length
        · obtain ⟨b1, off1, a1, c1, rfl, _, hc1, hr1⟩ := (hLV.below hB).cell hkk
          have hmo := l08Key_any _ _ (getll locks k) key wear tol wr hr1 (hKL.below hB) (Hf.out.2.2.2.1 k hkk) (Hf.out.2.2.2.2.1 k hkk) Hf.out.2.2.2.2.2 hw9
          cases ho : mayTo wear tol (getll locks k) key key.length
          · have hst : wornTo wear tol locks key (k + 1) = wornTo wear tol locks key k := by rw [wornTo, ho]; rfl
            rw [ho] at hmo
            have Hst := Lib.hid (And.intro hst (And.intro hmo ho)); clear hst hmo ho
            go_wp2_with fail
            refine Hst.out.2.1.mono ?_
            rintro e' w5 ⟨rfl, hb5⟩
            have hown5 := own_keep hown hb5
            have Hfin := Lib.hid hown5; clear hown5 hc1 hr1 hown
            go_wp2_with fail
            go_roundw
            case rel => exact ⟨k + 1, by omega, by go_num, by rw [Hst.out.1]; exact Hfin.out, hB.trans (hb5.mono hzW)⟩
            case measure => simp [intOf]; omega
          · have hst : wornTo wear tol locks key (k + 1) = wornTo wear tol locks key k ++ [(k : Int)] := by rw [wornTo, ho]; rfl
            rw [ho] at hmo
            have Hst := Lib.hid (And.intro hst (And.intro hmo ho)); clear hst hmo ho
            go_wp2_with fail
            refine Hst.out.2.1.mono ?_
            rintro e' w5 ⟨rfl, hb5⟩
            have hz5 := hb5.size
            have hown5 := own_keep hown hb5
            clear hc1 hr1 hown
            go_wp2_with (at_builtin; refine wp_app1 _ rfl _ _ 46 rfl wL.heap.size 2 (.int .i64 0) 8 Tryz.underlying46 inf_int rfl _ _ _ rfl hown5 (.int .i64 k) _ rfl rfl (by omega) (by omega) (by omega) ?_; intro v1 w1 hown1 hgrow1 hblk1 hB1)
            have Hfin := Lib.hid hown1; clear hown1 hgrow1 hblk1
            go_roundw
            case rel => exact ⟨k + 1, by omega, by go_num, by rw [Hst.out.1, List.map_append, List.length_append]; exact Hfin.out, (hB.trans (hb5.mono hzW)).trans hB1⟩
            case measure => simp [intOf]; omega
        · obtain rfl : k = locks.length := by omega
          have hfx := (own_F1 hown).v1.old
          have Hfx := Lib.hid hfx; clear hfx hown
          go_wp2_with fail
          go_ret2
          exact ⟨_, rfl, Hfx.out, hB01.trans ((hb1L.trans (hB.mono hzL)).mono (by omega))⟩
  · have hfin : (wornAns m t cuts key wear tol) = ([], keyC m t cuts key) := by
      unfold wornAns
      by_cases hp : designC m t cuts = 0
      · have hik : isKeyB m key = false := by
          cases h : isKeyB m key
          · rfl
          · exact absurd (keyW_ok.2 ⟨hp, h⟩) hkc
        have : keyC m t cuts key = 2 := by unfold keyC; rw [if_neg (by rw [hp]; decide), if_pos hik]
        rw [if_neg (by rw [hp]; decide), if_pos (by rw [worn_parts, hik, Bool.and_false]), this]
      · rw [if_pos hp, keyW_no hp]
    have e1 : (keyC m t cuts key != 0) = true := by simp [hkc]
    have e0 : (keyC m t cuts key == 0) = false := by simp [hkc]
    rw [hfin]
    have Hp := Lib.hid (And.intro hkc hfin); clear hkc hfin hnb
    generalize keyC m t cuts key = pc at *
    go_enter Tryz.func30, Tryz.ntmps30
    go_wp2_with fail
    rw [← hW1]
    refine hcode.mono ?_
    rintro e' w2 ⟨rfl, hb2⟩
    clear hc01 hh01
    go_wp2_with fail
    go_ret2
    exact ⟨_, rfl, (F1.nil3 (B := 0)).v1.old, hB01.trans (hb2.mono (by omega))⟩
end Go.Proofs.YtmfgdoflddhngaaGreat

namespace Go.Proofs.YtmfgdoflddhngaaGreat
open Go.RowKit
set_option linter.unusedVariables false
set_option linter.unusedSimpArgs false

theorem free_self {tol x : Int} {s : List Int} (ht : 0 ≤ tol) (hx : x ∈ s) : freeB tol (10 * x) s = true := by
  unfold freeB
  rw [List.any_eq_true]
  exact ⟨x, hx, by rw [decide_eq_true_eq]; unfold absI; omega⟩
theorem some_self {tol p : Int} {s : List Int} (h : freeB tol p s = true) : ∀ n, someTo tol p s (n + 1) = true
  | 0 => by simp [someTo, h]
  | n + 1 => by unfold someTo; rw [some_self h n, Bool.true_or]
theorem may_open {wear tol : Int} {l : List (List Int)} {key : List Int} (ht : 0 ≤ tol) : ∀ k, (∀ i, i < k → geti key i ∈ getl l i) → mayTo wear tol l key k = true
  | 0, _ => rfl
  | k + 1, h => by unfold mayTo; rw [may_open ht k (fun i hi => h i (by omega)), some_self (free_self ht (h k (by omega))) _]; rfl
theorem may_none {l : List (List Int)} {key : List Int} : ∀ k, mayTo 0 0 l key k = true → ∀ i, i < k → geti key i ∈ getl l i
  | 0, _ => fun i hi => by omega
  | k + 1, h => by
    unfold mayTo at h
    rw [Bool.and_eq_true] at h
    intro i hi
    by_cases e : i = k
    · subst e
      have h2 := h.2
      have h4 : freeB 0 (10 * geti key i) (getl l i) = true := by simpa [someTo] using h2
      unfold freeB at h4
      rw [List.any_eq_true] at h4
      obtain ⟨d, hd, h3⟩ := h4
      rw [decide_eq_true_eq] at h3
      have : d = geti key i := by unfold absI at h3; omega
      rw [← this]; exact hd
    · exact may_none k h.1 i (by omega)
theorem may_exact (l : List (List Int)) (key : List Int) : mayTo 0 0 l key key.length = opensB l key := by
  rw [Bool.eq_iff_iff, opensB_iff]
  exact ⟨fun h => may_none _ h, fun h => may_open (Int.le_refl _) _ h⟩
theorem worn_doors (locks : List (List (List Int))) (key : List Int) : ∀ k, wornTo 0 0 locks key k = doorsTo locks key k
  | 0 => rfl
  | k + 1 => by unfold wornTo doorsTo; rw [may_exact, worn_doors locks key k]
theorem worn_more {wear tol : Int} {locks : List (List (List Int))} {key : List Int} {x : Int} (ht : 0 ≤ tol) : ∀ k, x ∈ doorsTo locks key k → x ∈ wornTo wear tol locks key k
  | 0, h => h
  | k + 1, h => by
    unfold doorsTo at h
    unfold wornTo
    by_cases ho : opensB (getll locks k) key = true
    · rw [if_pos ho] at h
      rw [if_pos (may_open ht _ (opensB_iff.1 ho))]
      rw [List.mem_append] at h ⊢
      exact h.imp (worn_more ht k) id
    · rw [if_neg ho] at h
      have := worn_more (wear := wear) ht k h
      split
      · exact List.mem_append_left _ this
      · exact this
/-- The law. -/
theorem worn_law {m : Mk} {t cuts : List (List Int)} {key : List Int} {wear tol : Int} (h : (wornAns m t cuts key wear tol).2 = 0) :
    (doorsAns m t cuts key).2 = 0 ∧ (∀ x ∈ (doorsAns m t cuts key).1, x ∈ (wornAns m t cuts key wear tol).1) ∧ wornAns m t cuts key 0 0 = ((doorsAns m t cuts key).1, 0) := by
  by_cases hp : designC m t cuts = 0
  · cases hw : wornOk m key wear tol
    · unfold wornAns at h
      rw [if_neg (by rw [hp]; decide), if_pos hw] at h
      cases h
    · have hw1 := hw
      unfold wornOk at hw
      simp only [Bool.and_eq_true] at hw
      obtain ⟨⟨h1, h2⟩, h3⟩ := hw
      have hk : keyC m t cuts key = 0 := keyC_ok.2 ⟨hp, h3⟩
      have hw0 : wornOk m key 0 0 = true := by unfold wornOk; rw [h3]; rfl
      have ed : doorsAns m t cuts key = (doorsOf (locksTo m.c.toNat t cuts (getl t 0).length) key, 0) := by unfold doorsAns; rw [if_neg (by rw [hk]; decide)]
      have ew : wornAns m t cuts key wear tol = (wornTo wear tol (locksTo m.c.toNat t cuts (getl t 0).length) key (getl t 0).length, 0) := by unfold wornAns; rw [if_neg (by rw [hp]; decide), if_neg (by rw [hw1]; decide)]
      have e0 : wornAns m t cuts key 0 0 = (wornTo 0 0 (locksTo m.c.toNat t cuts (getl t 0).length) key (getl t 0).length, 0) := by unfold wornAns; rw [if_neg (by rw [hp]; decide), if_neg (by rw [hw0]; decide)]
      rw [ed, ew, e0]
      unfold doorsOf
      rw [locksTo_len]
      exact ⟨rfl, fun x hx => worn_more (inB_iff.1 h2).1 _ hx, by rw [worn_doors]⟩
  · exfalso
    unfold wornAns at h
    rw [if_pos hp] at h
    exact hp h
end Go.Proofs.YtmfgdoflddhngaaGreat
