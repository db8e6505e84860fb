/- The doors that a key opens; DoorsOpened. No conditions. -/
import Derived.Test.YtbckginfipeibaaGreatDesign
namespace Go.Proofs.YtbckginfipeibaaGreat
open Go.RowKit
set_option linter.unusedVariables false
set_option linter.unusedSimpArgs false

/-- The doors among the first k whose locks a key opens. -/
def doorsTo (locks : List (List (List Int))) (key : List Int) : Nat → List Int
  | 0 => []
  | k + 1 => if opensB (getll locks k) key = true then doorsTo locks key k ++ [(k : Int)] else doorsTo locks key k
def doorsOf (locks : List (List (List Int))) (key : List Int) : List Int := doorsTo locks key locks.length
theorem doorsTo_len (locks : List (List (List Int))) (key : List Int) : ∀ k, (doorsTo locks key k).length ≤ k
  | 0 => Nat.le_refl _
  | k + 1 => by have := doorsTo_len locks key k; unfold doorsTo; split <;> simp <;> omega
theorem doorsOf_len (locks : List (List (List Int))) (key : List Int) : (doorsOf locks key).length ≤ locks.length := doorsTo_len _ _ _
theorem mem_doorsTo {locks : List (List (List Int))} {key : List Int} {x : Int} : ∀ {k}, x ∈ doorsTo locks key k ↔ ∃ d : Nat, d < k ∧ x = d ∧ opensB (getll locks d) key = true
  | 0 => by simp [doorsTo]
  | k + 1 => by
    unfold doorsTo
    split
    · rename_i h
      rw [List.mem_append, mem_doorsTo]
      constructor
      · rintro (⟨d, h1, h2⟩ | h1)
        · exact ⟨d, by omega, h2⟩
        · exact ⟨k, by omega, List.mem_singleton.1 h1, h⟩
      · rintro ⟨d, h1, h2, h3⟩
        by_cases e : d = k
        · subst e; right; exact List.mem_singleton.2 h2
        · exact .inl ⟨d, by omega, h2, h3⟩
    · rename_i h
      rw [mem_doorsTo]
      constructor
      · rintro ⟨d, h1, h2⟩; exact ⟨d, by omega, h2⟩
      · rintro ⟨d, h1, h2, h3⟩
        refine ⟨d, ?_, h2, h3⟩
        by_cases e : d = k
        · subst e; exact absurd h3 h
        · omega

set_option maxRecDepth 100000 in
theorem doorsOpened_any {S S' : Nat → Prop} (lv v : Value) (locks : List (List (List Int))) (key : List Int) (W : World) (h : V3 S W lv locks) (hk : V1 S' W v key) (hl : locks.length ≤ 1000) (hlen : ∀ k, k < locks.length → key.length ≤ (getll locks k).length) :
    Calls Tryz.prog 50 #[lv, v] W fun e' w' => ∃ v', e' = .returned v' ∧ F1 W.heap.size w' v' (doorsOf locks key) ∧ Below W.heap.size W w' := by
  have hV := h.any
  obtain ⟨a, c, rfl, hm⟩ := h.form
  have hK := hk.any
  obtain ⟨a', c', rfl, hm'⟩ := hk.form
  have Hlen := Lib.hid hlen; clear hlen
  have hown0 := own_lit0 W W.heap.size 2 1 (Nat.le_refl _)
  go_enter Tryz.func50, Tryz.ntmps50
  go_wp2_with fail
  go_loopw [5, 6, 7, 11] (fun o _ _ i wr => ∃ k : Nat, k ≤ locks.length ∧ i = .int .i64 (k : Int) ∧ wr.ownsRow W.heap.size 2 1 o (doorsTo locks key k).length ((doorsTo locks key k).map (Value.int .i64)) ∧ Below W.heap.size W wr) (fun _ _ _ i _ => locks.length - (intOf i).toNat)
  case atStart => exact ⟨0, Nat.zero_le _, rfl, hown0, (Below.refl _ _).alloc (Nat.le_refl _) _⟩
  case round =>
    obtain ⟨k, hkl, rfl, hown, hB⟩ := hrel
    have hdl := doorsTo_len locks key k
    have hzW := hB.size
    by_cases hkk : k < locks.length
    · obtain ⟨b1, off1, a1, c1, rfl, _, hc1, hr1⟩ := (hV.below hB).cell hkk
      have hb1 := lt_of_cell hc1
      simp only at hb1
      have hlk := Hlen.out k hkk
      have hbA : Below wr.heap.size wr (wr.alloc (.cells #[.slice a1 (getll locks k).length c1] 70)) := (Below.refl _ _).alloc (Nat.le_refl _) _
      cases ho : opensB (getll locks k) key
      · have hst : doorsTo locks key (k + 1) = doorsTo locks key k := by rw [doorsTo, ho]; rfl
        have Hst := Lib.hid hst; clear hst
        have Ho := Lib.hid ho; clear ho
        go_wp2_with fail
        refine (opens_b _ _ (getll locks k) key _ _ Ho.out (hr1.below hbA) ((hK.below hB).below hbA) hlk).mono ?_
        rintro e' w5 ⟨rfl, hb5⟩
        have hb05 := hbA.trans (hb5.mono (by simp))
        have hown5 := own_chg hown (Chg.of_below (F := fun _ => False) hb05) (fun _ _ h => h)
        clear hc1 hr1 hbA hown
        go_wp2_with fail
        go_roundw
        case rel => exact ⟨k + 1, by omega, by go_num, by rw [Hst.out]; exact hown5, hB.trans (hb05.mono hzW)⟩
        case measure => simp [intOf]; omega
      · have hst : doorsTo locks key (k + 1) = doorsTo locks key k ++ [(k : Int)] := by rw [doorsTo, ho]; rfl
        have Hst := Lib.hid hst; clear hst
        have Ho := Lib.hid ho; clear ho
        go_wp2_with fail
        refine (opens_b _ _ (getll locks k) key _ _ Ho.out (hr1.below hbA) ((hK.below hB).below hbA) hlk).mono ?_
        rintro e' w5 ⟨rfl, hb5⟩
        have hb05 := hbA.trans (hb5.mono (by simp))
        have hz5 := hb05.size
        have hown5 := own_chg hown (Chg.of_below (F := fun _ => False) hb05) (fun _ _ h => h)
        clear hc1 hr1 hbA hown
        go_wp2_with (at_builtin; refine wp_app1 _ rfl _ _ 44 rfl W.heap.size 2 (.int .i64 0) 8 Tryz.underlying44 inf_int rfl _ _ _ rfl hown5 (.int .i64 k) _ rfl rfl (by omega) (by omega) (by omega) ?_; intro v1 w1 hown1 hgrow1 hblk1 hB1)
        go_roundw
        case rel => exact ⟨k + 1, by omega, by go_num, by rw [Hst.out, List.map_append, List.length_append]; exact hown1, (hB.trans (hb05.mono hzW)).trans hB1⟩
        case measure => simp [intOf]; omega
    · obtain rfl : k = locks.length := by omega
      have hfx := own_F1 hown
      have Hfx := Lib.hid hfx; clear hfx hown
      go_wp2_with fail
      go_ret
      exact ⟨_, rfl, Hfx.out, hB⟩

set_option maxRecDepth 100000 in
theorem l16Doors_any {S S' S2 : Nat → Prop} (m : Mk) (u v kv : Value) (t cuts : List (List Int)) (key : List Int) (n : Nat) (W : World) (hf : Fits m t cuts) (hn : (n : Int) = m.c) (hkl : key.length ≤ n) (h : V2 S W u t) (hc : V2 S' W v cuts) (hk : V1 S2 W kv key) :
    Calls Tryz.prog 22 #[.agg #[.int .i64 m.c, .int .i64 m.d, .int .i64 m.s, .int .i64 m.e, .int .i64 m.l, u], v, kv] W fun e' w' => ∃ v', e' = .returned v' ∧ F1 W.heap.size w' v' (doorsOf (locksTo n t cuts (getl t 0).length) key) ∧ Below W.heap.size W w' := by
  obtain ⟨a, c, rfl, hmx⟩ := h.form
  obtain ⟨a', c', rfl, hmx'⟩ := hc.form
  obtain ⟨ka, kc, rfl, hmk⟩ := hk.form
  have hdoors := hf.doors
  have Hf := Lib.hid (And.intro hf hn); clear hf hn
  obtain ⟨locks, hlocks⟩ : ∃ x, x = locksTo n t cuts (getl t 0).length := ⟨_, rfl⟩
  rw [← hlocks]
  have hll : locks.length ≤ (getl t 0).length := by rw [hlocks, locksTo_len]; exact Nat.le_refl _
  have hlk : ∀ k, k < locks.length → (getll locks k).length = n := fun k hk => by rw [hlocks]; rw [hlocks, locksTo_len] at hk; exact lock_len hk
  have Hlocks := Lib.hid hlocks; clear hlocks
  have Hlk := Lib.hid hlk; clear hlk
  obtain ⟨W1, hW1, hB01, hz01, HZ01, hc01, hh01⟩ := box_facts W #[.int .i64 m.c, .int .i64 m.d, .int .i64 m.s, .int .i64 m.e, .int .i64 m.l, .slice a t.length c] 33
  have hV1 := (h.below hB01).any
  have hC1 := (hc.below hB01).any
  have hK1 := (hk.below hB01).any
  go_enter Tryz.func22, Tryz.ntmps22
  go_wp2_with fail
  rw [← hW1]
  refine (l15Locks_any m _ _ t cuts n _ Hf.out.1 Hf.out.2 hV1 hC1).mono ?_
  rintro e' wL ⟨lv, rfl, hLk0, hBL⟩
  rw [← Hlocks.out] at hLk0
  have hLk := hLk0.any
  have hzL := hBL.size
  obtain ⟨la, lc, rfl, hlm⟩ := hLk.form
  have HW1 := Lib.hid hW1; clear hW1 hh01 hc01 hLk0
  have hown0 := own_lit0 wL wL.heap.size 2 1 (Nat.le_refl _)
  go_wp2_with fail
  go_loopw [8, 9] (fun o i wr => ∃ k : Nat, k ≤ locks.length ∧ i = .int .i64 (k : Int) ∧ wr.ownsRow wL.heap.size 2 1 o (doorsTo locks key k).length ((doorsTo locks key k).map (Value.int .i64)) ∧ Below wL.heap.size wL wr) (fun _ i _ => locks.length - (intOf i).toNat)
  case atStart => exact ⟨0, Nat.zero_le _, rfl, hown0, (Below.refl _ _).alloc (Nat.le_refl _) _⟩
  case round =>
    obtain ⟨k, hkl, rfl, hown, hB⟩ := hrel
    have hdl := doorsTo_len locks key k
    have hzW := hB.size
    have hBW := hBL.trans (hB.mono hzL)
    by_cases hkk : k < locks.length
    · obtain ⟨b1, off1, a1, c1, rfl, _, hc1, hr1⟩ := (hLk.below hB).cell hkk
      have hlk : key.length ≤ (getll locks k).length := by rw [Hlk.out k hkk]; omega
      cases ho : opensB (getll locks k) key
      · have hst : doorsTo locks key (k + 1) = doorsTo locks key k := by rw [doorsTo, ho]; rfl
        have Hst := Lib.hid hst; clear hst
        have Ho := Lib.hid ho; clear ho
        go_wp2_with fail
        refine (l04Opens_b _ _ (getll locks k) key _ _ Ho.out hr1 (hK1.below hBW) hlk).mono ?_
        rintro e' w5 ⟨rfl, hb5⟩
        have hown5 := own_chg hown (Chg.of_below (F := fun _ => False) hb5) (fun _ _ h => h)
        clear hc1 hr1 hown
        go_wp2_with fail
        go_roundw
        case rel => exact ⟨k + 1, by omega, by go_num, by rw [Hst.out]; exact hown5, hB.trans (hb5.mono hzW)⟩
        case measure => simp [intOf]; omega
      · have hst : doorsTo locks key (k + 1) = doorsTo locks key k ++ [(k : Int)] := by rw [doorsTo, ho]; rfl
        have Hst := Lib.hid hst; clear hst
        have Ho := Lib.hid ho; clear ho
        go_wp2_with fail
        refine (l04Opens_b _ _ (getll locks k) key _ _ Ho.out hr1 (hK1.below hBW) hlk).mono ?_
        rintro e' w5 ⟨rfl, hb5⟩
        have hz5 := hb5.size
        have hown5 := own_chg hown (Chg.of_below (F := fun _ => False) hb5) (fun _ _ h => h)
        clear hc1 hr1 hown
        go_wp2_with (at_builtin; refine wp_app1 _ rfl _ _ 44 rfl wL.heap.size 2 (.int .i64 0) 8 Tryz.underlying44 inf_int rfl _ _ _ rfl hown5 (.int .i64 k) _ rfl rfl (by omega) (by omega) (by omega) ?_; intro v1 w1 hown1 hgrow1 hblk1 hB1)
        go_roundw
        case rel => exact ⟨k + 1, by omega, by go_num, by rw [Hst.out, List.map_append, List.length_append]; exact hown1, (hB.trans (hb5.mono hzW)).trans hB1⟩
        case measure => simp [intOf]; omega
    · obtain rfl : k = locks.length := by omega
      have hfx := own_F1 hown
      have Hfx := Lib.hid hfx; clear hfx hown
      go_wp2_with fail
      go_ret
      exact ⟨_, rfl, F1.mono Hfx.out (by omega), hB01.trans (hBW.mono (by omega))⟩

def keyC (m : Mk) (t cuts : List (List Int)) (key : List Int) : Int := if designC m t cuts ≠ 0 then designC m t cuts else if isKeyB m key = false then 2 else 0
theorem designC_or (m : Mk) (t cuts : List (List Int)) : designC m t cuts = 0 ∨ designC m t cuts = 1 := by unfold designC; split <;> simp
end Go.Proofs.YtbckginfipeibaaGreat
