/- The doors that a key opens; DoorsOpened. No conditions. -/
import Derived.Laws.OwnMore
import Derived.Test.YtmfgdoflddhngaaGreatMEach5
import Derived.Test.YtmfgdoflddhngaaGreatMSys2
import Derived.Test.YtmfgdoflddhngaaGreatMLib
namespace Go.Proofs.YtmfgdoflddhngaaGreat
open Go.RowKit
set_option linter.unusedVariables false
set_option linter.unusedSimpArgs false

/-- The doors among the first k whose locks a key opens. -/
def doorsTo (locks : List (List (List Int))) (key : List Int) : Nat → List Int
  | 0 => []
  | k + 1 => if opensB (getll locks k) key = true then doorsTo locks key k ++ [(k : Int)] else doorsTo locks key k
def doorsOf (locks : List (List (List Int))) (key : List Int) : List Int := doorsTo locks key locks.length
theorem doorsTo_len (locks : List (List (List Int))) (key : List Int) : ∀ k, (doorsTo locks key k).length ≤ k
  | 0 => Nat.le_refl _
  | k + 1 => by have := doorsTo_len locks key k; unfold doorsTo; split <;> simp <;> omega
theorem doorsOf_len (locks : List (List (List Int))) (key : List Int) : (doorsOf locks key).length ≤ locks.length := doorsTo_len _ _ _
theorem mem_doorsTo {locks : List (List (List Int))} {key : List Int} {x : Int} : ∀ {k}, x ∈ doorsTo locks key k ↔ ∃ d : Nat, d < k ∧ x = d ∧ opensB (getll locks d) key = true
  | 0 => by simp [doorsTo]
  | k + 1 => by
    unfold doorsTo
    split
    · rename_i h
      rw [List.mem_append, mem_doorsTo]
      constructor
      · rintro (⟨d, h1, h2⟩ | h1)
        · exact ⟨d, by omega, h2⟩
        · exact ⟨k, by omega, List.mem_singleton.1 h1, h⟩
      · rintro ⟨d, h1, h2, h3⟩
        by_cases e : d = k
        · subst e; right; exact List.mem_singleton.2 h2
        · exact .inl ⟨d, by omega, h2, h3⟩
    · rename_i h
      rw [mem_doorsTo]
      constructor
      · rintro ⟨d, h1, h2⟩; exact ⟨d, by omega, h2⟩
      · rintro ⟨d, h1, h2, h3⟩
        refine ⟨d, ?_, h2, h3⟩
        by_cases e : d = k
        · subst e; exact absurd h3 h
        · omega

set_option maxRecDepth 100000 in
theorem doorsOpened_any {S S' : Nat → Prop} (lv v : Value) (locks : List (List (List Int))) (key : List Int) (W : World) (h : V3 S W lv locks) (hk : V1 S' W v key) (hl : locks.length ≤ 1000) (hlen : ∀ k, k < locks.length → key.length ≤ (getll locks k).length) :
    Calls Tryz.prog 133 #[lv, v] W fun e' w' => ∃ v', e' = .returned v' ∧ F1 W.heap.size w' v' (doorsOf locks key) ∧ Below W.heap.size W w' := by
  have hV := h.any
  obtain ⟨a, c, rfl, hm⟩ := h.form
  have hK := hk.any
  obtain ⟨a', c', rfl, hm'⟩ := hk.form
  have Hlen := Lib.hid hlen; clear hlen
  have hown0 := own_lit0 W W.heap.size 2 1 (Nat.le_refl _)
  go_enter Tryz.func133, Tryz.ntmps133
  go_wp2_with fail
  go_loopw [5, 6, 7, 11] (fun o _ _ i wr => ∃ k : Nat, k ≤ locks.length ∧ i = .int .i64 (k : Int) ∧ wr.ownsRow W.heap.size 2 1 o (doorsTo locks key k).length ((doorsTo locks key k).map (Value.int .i64)) ∧ Below W.heap.size W wr) (fun _ _ _ i _ => locks.length - (intOf i).toNat)
  case atStart => exact ⟨0, Nat.zero_le _, rfl, hown0, (Below.refl _ _).alloc (Nat.le_refl _) _⟩
  case round =>
    obtain ⟨k, hkl, rfl, hown, hB⟩ := hrel
    have hdl := doorsTo_len locks key k
    have hzW := hB.size
    by_cases hkk : k < locks.length
    · obtain ⟨b1, off1, a1, c1, rfl, _, hc1, hr1⟩ := (hV.below hB).cell hkk
      have hb1 := lt_of_cell hc1
      simp only at hb1
      have hlk := Hlen.out k hkk
      have hbA : Below wr.heap.size wr (wr.alloc (.cells #[.slice a1 (getll locks k).length c1] 117)) := (Below.refl _ _).alloc (Nat.le_refl _) _
      cases ho : opensB (getll locks k) key
      · have hst : doorsTo locks key (k + 1) = doorsTo locks key k := by rw [doorsTo, ho]; rfl
        have Hst := Lib.hid hst; clear hst
        have Ho := Lib.hid ho; clear ho
        go_wp2_with fail
        refine (opens_b _ _ (getll locks k) key _ _ Ho.out (hr1.below hbA) ((hK.below hB).below hbA) hlk).mono ?_
        rintro e' w5 ⟨rfl, hb5⟩
        have hb05 := hbA.trans (hb5.mono (by simp))
        have hown5 := own_chg hown (Chg.of_below (F := fun _ => False) hb05) (fun _ _ h => h)
        clear hc1 hr1 hbA hown
        go_wp2_with fail
        go_roundw
        case rel => exact ⟨k + 1, by omega, by go_num, by rw [Hst.out]; exact hown5, hB.trans (hb05.mono hzW)⟩
        case measure => simp [intOf]; omega
      · have hst : doorsTo locks key (k + 1) = doorsTo locks key k ++ [(k : Int)] := by rw [doorsTo, ho]; rfl
        have Hst := Lib.hid hst; clear hst
        have Ho := Lib.hid ho; clear ho
        go_wp2_with fail
        refine (opens_b _ _ (getll locks k) key _ _ Ho.out (hr1.below hbA) ((hK.below hB).below hbA) hlk).mono ?_
        rintro e' w5 ⟨rfl, hb5⟩
        have hb05 := hbA.trans (hb5.mono (by simp))
        have hz5 := hb05.size
        have hown5 := own_chg hown (Chg.of_below (F := fun _ => False) hb05) (fun _ _ h => h)
        clear hc1 hr1 hbA hown
        go_wp2_with (at_builtin; refine wp_app1 _ rfl _ _ 46 rfl W.heap.size 2 (.int .i64 0) 8 Tryz.underlying46 inf_int rfl _ _ _ rfl hown5 (.int .i64 k) _ rfl rfl (by omega) (by omega) (by omega) ?_; intro v1 w1 hown1 hgrow1 hblk1 hB1)
        go_roundw
        case rel => exact ⟨k + 1, by omega, by go_num, by rw [Hst.out, List.map_append, List.length_append]; exact hown1, (hB.trans (hb05.mono hzW)).trans hB1⟩
        case measure => simp [intOf]; omega
    · obtain rfl : k = locks.length := by omega
      have hfx := own_F1 hown
      have Hfx := Lib.hid hfx; clear hfx hown
      go_wp2_with fail
      go_ret
      exact ⟨_, rfl, Hfx.out, hB⟩

set_option maxRecDepth 100000 in
theorem l16Doors_any {S S' S2 : Nat → Prop} (m : Mk) (u v kv : Value) (t cuts : List (List Int)) (key : List Int) (n : Nat) (W : World) (hf : Fits m t cuts) (hn : (n : Int) = m.c) (hkl : key.length ≤ n) (h : V2 S W u t) (hc : V2 S' W v cuts) (hk : V1 S2 W kv key) :
    Calls Tryz.prog 134 #[.agg #[.int .i64 m.c, .int .i64 m.d, .int .i64 m.s, .int .i64 m.e, .int .i64 m.l, u], v, kv] W fun e' w' => ∃ v', e' = .returned v' ∧ F1 W.heap.size w' v' (doorsOf (locksTo n t cuts (getl t 0).length) key) ∧ Below W.heap.size W w' := by
  obtain ⟨a, c, rfl, hmx⟩ := h.form
  obtain ⟨a', c', rfl, hmx'⟩ := hc.form
  obtain ⟨ka, kc, rfl, hmk⟩ := hk.form
  have hdoors := hf.doors
  have Hf := Lib.hid (And.intro hf hn); clear hf hn
  obtain ⟨locks, hlocks⟩ : ∃ x, x = locksTo n t cuts (getl t 0).length := ⟨_, rfl⟩
  rw [← hlocks]
  have hll : locks.length ≤ (getl t 0).length := by rw [hlocks, locksTo_len]; exact Nat.le_refl _
  have hlk : ∀ k, k < locks.length → (getll locks k).length = n := fun k hk => by rw [hlocks]; rw [hlocks, locksTo_len] at hk; exact lock_len hk
  have Hlocks := Lib.hid hlocks; clear hlocks
  have Hlk := Lib.hid hlk; clear hlk
  obtain ⟨W1, hW1, hB01, hz01, HZ01, hc01, hh01⟩ := box_facts W #[.int .i64 m.c, .int .i64 m.d, .int .i64 m.s, .int .i64 m.e, .int .i64 m.l, .slice a t.length c] 28
  have hV1 := (h.below hB01).any
  have hC1 := (hc.below hB01).any
  have hK1 := (hk.below hB01).any
  go_enter Tryz.func134, Tryz.ntmps134
  go_wp2_with fail
  rw [← hW1]
  refine (l15Locks_any m _ _ t cuts n _ Hf.out.1 Hf.out.2 hV1 hC1).mono ?_
  rintro e' wL ⟨lv, rfl, hLk0, hBL⟩
  rw [← Hlocks.out] at hLk0
  have hLk := hLk0.any
  have hzL := hBL.size
  obtain ⟨la, lc, rfl, hlm⟩ := hLk.form
  have HW1 := Lib.hid hW1; clear hW1 hh01 hc01 hLk0
  have hown0 := own_lit0 wL wL.heap.size 2 1 (Nat.le_refl _)
  go_wp2_with fail
  go_loopw [8, 9] (fun o i wr => ∃ k : Nat, k ≤ locks.length ∧ i = .int .i64 (k : Int) ∧ wr.ownsRow wL.heap.size 2 1 o (doorsTo locks key k).length ((doorsTo locks key k).map (Value.int .i64)) ∧ Below wL.heap.size wL wr) (fun _ i _ => locks.length - (intOf i).toNat)
  case atStart => exact ⟨0, Nat.zero_le _, rfl, hown0, (Below.refl _ _).alloc (Nat.le_refl _) _⟩
  case round =>
    obtain ⟨k, hkl, rfl, hown, hB⟩ := hrel
    have hdl := doorsTo_len locks key k
    have hzW := hB.size
    have hBW := hBL.trans (hB.mono hzL)
    by_cases hkk : k < locks.length
    · obtain ⟨b1, off1, a1, c1, rfl, _, hc1, hr1⟩ := (hLk.below hB).cell hkk
      have hlk : key.length ≤ (getll locks k).length := by rw [Hlk.out k hkk]; omega
      cases ho : opensB (getll locks k) key
      · have hst : doorsTo locks key (k + 1) = doorsTo locks key k := by rw [doorsTo, ho]; rfl
        have Hst := Lib.hid hst; clear hst
        have Ho := Lib.hid ho; clear ho
        go_wp2_with fail
        refine (l04Opens_b _ _ (getll locks k) key _ _ Ho.out hr1 (hK1.below hBW) hlk).mono ?_
        rintro e' w5 ⟨rfl, hb5⟩
        have hown5 := own_chg hown (Chg.of_below (F := fun _ => False) hb5) (fun _ _ h => h)
        clear hc1 hr1 hown
        go_wp2_with fail
        go_roundw
        case rel => exact ⟨k + 1, by omega, by go_num, by rw [Hst.out]; exact hown5, hB.trans (hb5.mono hzW)⟩
        case measure => simp [intOf]; omega
      · have hst : doorsTo locks key (k + 1) = doorsTo locks key k ++ [(k : Int)] := by rw [doorsTo, ho]; rfl
        have Hst := Lib.hid hst; clear hst
        have Ho := Lib.hid ho; clear ho
        go_wp2_with fail
        refine (l04Opens_b _ _ (getll locks k) key _ _ Ho.out hr1 (hK1.below hBW) hlk).mono ?_
        rintro e' w5 ⟨rfl, hb5⟩
        have hz5 := hb5.size
        have hown5 := own_chg hown (Chg.of_below (F := fun _ => False) hb5) (fun _ _ h => h)
        clear hc1 hr1 hown
        go_wp2_with (at_builtin; refine wp_app1 _ rfl _ _ 46 rfl wL.heap.size 2 (.int .i64 0) 8 Tryz.underlying46 inf_int rfl _ _ _ rfl hown5 (.int .i64 k) _ rfl rfl (by omega) (by omega) (by omega) ?_; intro v1 w1 hown1 hgrow1 hblk1 hB1)
        go_roundw
        case rel => exact ⟨k + 1, by omega, by go_num, by rw [Hst.out, List.map_append, List.length_append]; exact hown1, (hB.trans (hb5.mono hzW)).trans hB1⟩
        case measure => simp [intOf]; omega
    · obtain rfl : k = locks.length := by omega
      have hfx := own_F1 hown
      have Hfx := Lib.hid hfx; clear hfx hown
      go_wp2_with fail
      go_ret
      exact ⟨_, rfl, F1.mono Hfx.out (by omega), hB01.trans (hBW.mono (by omega))⟩

def keyC (m : Mk) (t cuts : List (List Int)) (key : List Int) : Int := if designC m t cuts ≠ 0 then designC m t cuts else if isKeyB m key = false then 2 else 0
set_option maxRecDepth 100000 in
theorem l21Key_any {S S' S2 : Nat → Prop} (m : Mk) (u v kv : Value) (t cuts : List (List Int)) (key : List Int) (W : World) (h : V2 S W u t) (hc : V2 S' W v cuts) (hk : V1 S2 W kv key) :
    Calls Tryz.prog 128 #[.agg #[.int .i64 m.c, .int .i64 m.d, .int .i64 m.s, .int .i64 m.e, .int .i64 m.l, u], v, kv] W fun e' w' => e' = .returned (.int .i64 (keyC m t cuts key)) ∧ Below W.heap.size W w' := by
  obtain ⟨a, c, rfl, hmx⟩ := h.form
  obtain ⟨a', c', rfl, hmx'⟩ := hc.form
  obtain ⟨ka, kc, rfl, hmk⟩ := hk.form
  obtain ⟨W1, hW1, hB01, hz01, HZ01, hc01, hh01⟩ := box_facts W #[.int .i64 m.c, .int .i64 m.d, .int .i64 m.s, .int .i64 m.e, .int .i64 m.l, .slice a t.length c] 28
  have hV1 := (h.below hB01).any
  have hC1 := (hc.below hB01).any
  have hK1 := (hk.below hB01).any
  have hcode := l21Code_any m _ _ t cuts W1 hV1 hC1
  by_cases hp : designC m t cuts = 0
  · rw [hp] at hcode
    have hok := (design_fits hp).1.ok
    have hz1 : W.heap.size < W1.heap.size := hz01
    cases hk2 : isKeyB m key
    all_goals
      first | (have hfin : keyC m t cuts key = 2 := (by unfold keyC; rw [if_neg (by rw [hp]; decide), if_pos hk2])) | (have hfin : keyC m t cuts key = 0 := (by unfold keyC; rw [if_neg (by rw [hp]; decide), if_neg (by rw [hk2]; decide)]))
      first | (have hd : (fault m key != 0) = true := (by unfold isKeyB at hk2; simpa using hk2)) | (have hd : (fault m key != 0) = false := (by unfold isKeyB at hk2; simpa using hk2))
      rw [hfin]
      have Hcode := Lib.hid hcode; clear hcode
      have Hp := Lib.hid (And.intro hp (And.intro hfin hk2)); clear hp hfin hk2
      have Hok := Lib.hid hok; clear hok
      go_enter Tryz.func128, Tryz.ntmps128
      go_wp2_with fail
      rw [← hW1]
      refine Hcode.out.mono ?_
      rintro e' w2 ⟨rfl, hb2⟩
      have hx2 : ∀ o, w2.cell? ⟨W.heap.size, o, none⟩ = (#[.int .i64 m.c, .int .i64 m.d, .int .i64 m.s, .int .i64 m.e, .int .i64 m.l, .slice a t.length c] : Array Value)[o]? := fun o => by rw [(bcell hb2).1 _ _ hz01, hc01]
      have hz2 : W.heap.size < w2.heap.size := by have := hb2.size; omega
      clear hc01 hh01
      go_wp2_with fail
      refine (l02Fault_any m _ key _ Hok.out (hK1.below hb2)).mono ?_
      rintro e' w3 ⟨rfl, hb3⟩
      clear hx2
      go_wp2_with fail
      go_ret
      exact ⟨rfl, hB01.trans ((hb2.trans (hb3.mono hb2.size)).mono (by omega))⟩
  · have hfin : keyC m t cuts key = designC m t cuts := by unfold keyC; rw [if_pos hp]
    have e1 : (designC m t cuts == 0) = false := by simp [hp]
    rw [hfin]
    have Hp := Lib.hid (And.intro hp hfin); clear hp hfin
    generalize designC m t cuts = pc at *
    go_enter Tryz.func128, Tryz.ntmps128
    go_wp2_with fail
    rw [← hW1]
    refine hcode.mono ?_
    rintro e' w2 ⟨rfl, hb2⟩
    clear hc01 hh01
    go_wp2_with fail
    go_ret
    exact ⟨rfl, hB01.trans (hb2.mono (by omega))⟩
end Go.Proofs.YtmfgdoflddhngaaGreat

namespace Go.Proofs.YtmfgdoflddhngaaGreat
open Go.RowKit
set_option linter.unusedVariables false
set_option linter.unusedSimpArgs false

/-- The first of a list, and whether there is one. -/
def nextAns : List (List Int) → List Int × Bool
  | [] => ([], false)
  | k :: _ => (k, true)
theorem nextAns_append (a b : List (List Int)) : nextAns (a ++ b) = if (nextAns a).2 = true then nextAns a else nextAns b := by
  cases a <;> simp [nextAns]
theorem nextAns_true {l : List (List Int)} (h : (nextAns l).2 = true) : ∃ k r, l = k :: r := by
  cases l with
  | nil => cases h
  | cons k r => exact ⟨k, r, rfl⟩
/-- What the cells of a slice read as. -/
def readI (w : World) : Value → List Int
  | .slice (some ⟨b, off, none⟩) n _ => (List.range n).map fun k => match w.cell? ⟨b, off + k, none⟩ with
    | some (.int _ x) => x
    | _ => 0
  | _ => []
theorem V1.read {S : Nat → Prop} {w : World} {v : Value} {l : List Int} (h : V1 S w v l) : readI w v = l := by
  obtain ⟨a, c, rfl, h1, h2, h⟩ := h
  by_cases hn : l.length = 0
  · obtain rfl := List.eq_nil_of_length_eq_zero hn
    cases a with
    | none => rfl
    | some a => obtain ⟨b, off, s⟩ := a; cases s <;> rfl
  · obtain ⟨b, off, ev, rfl, _, _, _⟩ := h 0 (by omega)
    unfold readI
    apply List.ext_getElem (by simp)
    intro k g1 g2
    obtain ⟨b', off', ev, e, _, hc, hr⟩ := h k g2
    simp only [Option.some.injEq, Addr.mk.injEq, and_true] at e
    obtain ⟨rfl, rfl⟩ := e
    rw [show ev = .int .i64 (geti l k) from hr] at hc
    simp only [List.getElem_map, List.getElem_range, hc]
    exact geti_eq g2
/-- How many keys are still to come: for the measure of a loop over keys. -/
def isOk : Value → Bool
  | .bool b => b
  | _ => false
def toCome (m : Mk) (w : World) (kv okv : Value) : Nat := if isOk okv = true then (behind m (readI w kv)).length + 1 else 0
theorem toCome_last {m : Mk} {w : World} {kv : Value} : toCome m w kv (.bool false) = 0 := by unfold toCome; rw [if_neg (by simp [isOk])]
theorem toCome_more {m : Mk} {w : World} {kv : Value} {S : Nat → Prop} {l : List Int} (h : V1 S w kv l) : toCome m w kv (.bool true) = (behind m l).length + 1 := by unfold toCome; simp [isOk, h.read]
end Go.Proofs.YtmfgdoflddhngaaGreat

namespace Go.Proofs.YtmfgdoflddhngaaGreat
open Go.RowKit
set_option linter.unusedVariables false
set_option linter.unusedSimpArgs false

/-- The outsiders among some keys. -/
def outsOf (cuts ks : List (List Int)) : List (List Int) := ks.filter fun k => !hasL cuts k
/-- How many doors a key opens. -/
def ndoors (locks : List (List (List Int))) (k : List Int) : Nat := (doorsOf locks k).length
theorem ndoors_le (locks : List (List (List Int))) (k : List Int) : ndoors locks k ≤ locks.length := doorsOf_len _ _
/-- How many of some keys open j doors. -/
def cntN (locks : List (List (List Int))) (ks : List (List Int)) (j : Nat) : Nat := ks.countP fun k => decide (ndoors locks k = j)
theorem cntN_snoc (locks : List (List (List Int))) (ks : List (List Int)) (k : List Int) (j : Nat) : cntN locks (ks ++ [k]) j = cntN locks ks j + if ndoors locks k = j then 1 else 0 := by
  unfold cntN
  rw [List.countP_append]
  congr 1
  simp [List.countP_cons]
theorem cntN_le (locks : List (List (List Int))) (ks : List (List Int)) (j : Nat) : cntN locks ks j ≤ ks.length := List.countP_le_length
/-- The counts from lo on, n of them. -/
def cntL (locks : List (List (List Int))) (ks : List (List Int)) (lo n : Nat) : List Int := (List.range n).map fun j => ((cntN locks ks (lo + j) : Nat) : Int)
theorem cntL_len (locks : List (List (List Int))) (ks : List (List Int)) (lo n : Nat) : (cntL locks ks lo n).length = n := by simp [cntL]
theorem cntL_get {locks : List (List (List Int))} {ks : List (List Int)} {lo n j : Nat} (h : j < n) : geti (cntL locks ks lo n) j = ((cntN locks ks (lo + j) : Nat) : Int) := by
  rw [geti_eq (by rw [cntL_len]; exact h)]; simp [cntL]
theorem cntL_nil (locks : List (List (List Int))) (lo n : Nat) : cntL locks [] lo n = List.replicate n 0 := by
  apply List.ext_getElem (by simp [cntL])
  intro i h1 h2
  simp [cntL, cntN]
theorem sum_bd {l : List Int} {B : Int} (h : ∀ x ∈ l, 0 ≤ x ∧ x ≤ B) : 0 ≤ l.sum ∧ l.sum ≤ B * l.length := by
  induction l with
  | nil => simp
  | cons x l ih =>
    have h1 := h x (List.mem_cons_self ..)
    have h2 := ih fun y hy => h y (List.mem_cons_of_mem _ hy)
    simp only [List.sum_cons, List.length_cons, Int.natCast_add, Int.mul_add]
    omega
theorem sum_take {l : List Int} {k : Nat} (h : k < l.length) : (l.take (k + 1)).sum = (l.take k).sum + geti l k := by
  rw [take_geti h, List.sum_append]; simp
/-- All counts together. -/
theorem cnt_sum (locks : List (List (List Int))) (ks : List (List Int)) (lo : Nat) : ∀ n, ((cntL locks ks lo n).sum : Int) = ((ks.countP fun k => decide (lo ≤ ndoors locks k ∧ ndoors locks k < lo + n) : Nat) : Int)
  | 0 => by
    have : (ks.countP fun k => decide (lo ≤ ndoors locks k ∧ ndoors locks k < lo + 0)) = 0 := by
      rw [List.countP_eq_zero]; intro k _; simp
    rw [this]; simp [cntL]
  | n + 1 => by
    have ih := cnt_sum locks ks lo n
    have h1 : cntL locks ks lo (n + 1) = cntL locks ks lo n ++ [((cntN locks ks (lo + n) : Nat) : Int)] := by
      simp [cntL, List.range_succ]
    rw [h1, List.sum_append, ih]
    simp only [List.sum_cons, List.sum_nil, Int.add_zero]
    rw [← Int.natCast_add]
    congr 1
    unfold cntN
    clear ih h1
    induction ks with
    | nil => rfl
    | cons k ks ih =>
      simp only [List.countP_cons]
      by_cases h1 : ndoors locks k = lo + n
      · simp only [h1, decide_true, if_true]
        rw [show decide (lo ≤ lo + n ∧ lo + n < lo + n) = false by simp, show decide (lo ≤ lo + n ∧ lo + n < lo + (n + 1)) = true by simp]
        simp only [Bool.false_eq_true, if_false, if_true]
        omega
      · have e : decide (lo ≤ ndoors locks k ∧ ndoors locks k < lo + (n + 1)) = decide (lo ≤ ndoors locks k ∧ ndoors locks k < lo + n) := by
          rw [decide_eq_decide]; omega
        rw [e]
        simp only [h1, decide_false]
        simp only [Bool.false_eq_true, if_false]
        omega
end Go.Proofs.YtmfgdoflddhngaaGreat

namespace Go.Proofs.YtmfgdoflddhngaaGreat
open Go.RowKit
set_option linter.unusedVariables false
set_option linter.unusedSimpArgs false

/-- What is done at a key: nothing at one of the cuts. -/
def outStep {σ : Type} (step : σ → List Int → List Int → σ × Bool) (cuts : List (List Int)) (locks : List (List (List Int))) (s : σ) (key : List Int) : σ × Bool :=
  if hasL cuts key = true then (s, true) else step s key (doorsOf locks key)
/-- What a visit of outsiders does to a state, and to the memory that bears it: F are the blocks that it may write. -/
structure VisD {σ : Type} (C : Nat) (w0 : World) (F0 : Nat → Prop) (f : FuncId) (caps : Array Value) (step : σ → List Int → List Int → σ × Bool) (s0 : σ) (L : List (List Int)) (cuts : List (List Int)) (locks : List (List (List Int))) (Inv : σ → (Nat → Prop) → World → Prop) : Prop where
  enters : Enters f
  keep : ∀ s F w w', Inv s F w → w.heap.size ≤ w'.heap.size → (∀ b, F b → w'.heap[b]? = w.heap[b]?) → Inv s F w'
  lt : ∀ s F w, Inv s F w → ∀ b, F b → b < w.heap.size
  call : ∀ (s : σ) (F S S2 : Nat → Prop) (w : World) (v dv : Value) (key : List Int) (done rest : List (List Int)), L = done ++ key :: rest → runL (outStep step cuts locks) s0 done = (s, true) → Inv s F w → Chg F0 w0 w → (∀ b, F b → F0 b ∨ w0.heap.size ≤ b) →
    V1 S w v key → (∀ b, S b → ¬ F b) → V1 S2 w dv (doorsOf locks key) → (∀ b, S2 b → ¬ F b) → key.length = C →
    Calls Tryz.prog f (#[v, dv] ++ caps) w fun e w' => ∃ F', e = .returned (.bool (step s key (doorsOf locks key)).2) ∧ Inv (step s key (doorsOf locks key)).1 F' w' ∧ Chg F w w' ∧ ∀ b, F' b → F b ∨ w.heap.size ≤ b

theorem cast_act {Q : Exit → Act → World → Prop} {e : Exit} {w : World} {a a' : Act} (h : a = a') (hq : Q e a' w) : Q e a w := h ▸ hq
theorem c3_below {b1 b2 b3 : Nat} {v1 v2 v3 : Value} {w w' : World} (h : w.cell? ⟨b1, 0, none⟩ = some v1 ∧ w.cell? ⟨b2, 0, none⟩ = some v2 ∧ w.cell? ⟨b3, 0, none⟩ = some v3) (hb : Below w.heap.size w w') :
    w'.cell? ⟨b1, 0, none⟩ = some v1 ∧ w'.cell? ⟨b2, 0, none⟩ = some v2 ∧ w'.cell? ⟨b3, 0, none⟩ = some v3 :=
  ⟨cell_keep h.1 (hb.block _ (lt_of_cell h.1)), cell_keep h.2.1 (hb.block _ (lt_of_cell h.2.1)), cell_keep h.2.2 (hb.block _ (lt_of_cell h.2.2))⟩
theorem c3_chg {b1 b2 b3 : Nat} {v1 v2 v3 : Value} {w w' : World} {F : Nat → Prop} (h : w.cell? ⟨b1, 0, none⟩ = some v1 ∧ w.cell? ⟨b2, 0, none⟩ = some v2 ∧ w.cell? ⟨b3, 0, none⟩ = some v3) (hb : Chg F w w') (hn : ¬ F b1 ∧ ¬ F b2 ∧ ¬ F b3) :
    w'.cell? ⟨b1, 0, none⟩ = some v1 ∧ w'.cell? ⟨b2, 0, none⟩ = some v2 ∧ w'.cell? ⟨b3, 0, none⟩ = some v3 :=
  ⟨cell_keep h.1 (hb.block _ (lt_of_cell h.1) hn.1), cell_keep h.2.1 (hb.block _ (lt_of_cell h.2.1) hn.2.1), cell_keep h.2.2 (hb.block _ (lt_of_cell h.2.2) hn.2.2)⟩

section
variable {σ : Type} {m : Mk} {W0 : World} {F0 : Nat → Prop} {f : FuncId} {caps : Array Value} {step : σ → List Int → List Int → σ × Bool} {s0 : σ} {L : List (List Int)} {cuts : List (List Int)} {locks : List (List (List Int))} {Inv : σ → (Nat → Prop) → World → Prop}
theorem enters_out : Enters 240 := fun args w => by kernel_rfl
set_option maxRecDepth 100000 in
set_option maxHeartbeats 1000000 in
theorem out_call (V : VisD m.c.toNat W0 F0 f caps step s0 L cuts locks Inv) (bc bv bl : Nat) (cv lv : Value) (s : σ) (F S : Nat → Prop) (w : World) (v : Value) (key : List Int) (done rest : List (List Int))
    (hL : L = done ++ key :: rest) (hs : runL (outStep step cuts locks) s0 done = (s, true)) (hI : Inv s F w) (hc0 : Chg F0 W0 w) (hF : ∀ b, F b → F0 b ∨ W0.heap.size ≤ b)
    (hV : V1 S w v key) (hS : ∀ b, S b → ¬ F b) (hkl : key.length = m.c.toNat)
    (h1 : w.cell? ⟨bc, 0, none⟩ = some cv) (h2 : w.cell? ⟨bv, 0, none⟩ = some (.func (.func f) #[] caps)) (h3 : w.cell? ⟨bl, 0, none⟩ = some lv) (hn : ¬ F bc ∧ ¬ F bv ∧ ¬ F bl)
    (hcv : V2 (fun b => ¬ F b) w cv cuts) (hlv : V3 (fun b => ¬ F b) w lv locks) (hll : locks.length ≤ 1000) (hlen : ∀ k, k < locks.length → (getll locks k).length = m.c.toNat) :
    Calls Tryz.prog 240 #[v, .pointer (some ⟨bc, 0, none⟩), .pointer (some ⟨bv, 0, none⟩), .pointer (some ⟨bl, 0, none⟩)] w
      fun e w' => ∃ F', e = .returned (.bool (outStep step cuts locks s key).2) ∧ Inv (outStep step cuts locks s key).1 F' w' ∧ Chg F w w' ∧ ∀ b, F' b → F b ∨ w.heap.size ≤ b := by
  obtain ⟨ka, kc, rfl, hkm⟩ := hV.form
  obtain ⟨ca, cc, rfl, hcm⟩ := hcv.form
  obtain ⟨la, lc, rfl, hlm⟩ := hlv.form
  have hlenk : ∀ k, k < locks.length → key.length ≤ (getll locks k).length := fun k hk => by rw [hlen k hk, hkl]; exact Nat.le_refl _
  have Hlen := Lib.hid hlenk; clear hlen hlenk
  have Hkl := Lib.hid hkl; clear hkl
  have hFlt := V.lt _ _ _ hI
  have hdr : Below w.heap.size w w.drew := (Below.refl _ _).drew
  have H0 := Lib.hid (And.intro hL (And.intro hs (And.intro hc0 hF))); clear hL hs hc0 hF
  have HI := Lib.hid hI; clear hI
  have HF := Lib.hid (And.intro hFlt hS); clear hFlt hS
  have hen := V.enters
  unfold Enters at hen
  have HV := Lib.hid V; clear V
  have hkc := hV.below hdr
  have Hn := Lib.hid hn; clear hn
  cases hh : hasL cuts key
  · have hst : outStep step cuts locks s key = step s key (doorsOf locks key) := by unfold outStep; rw [if_neg (by rw [hh]; decide)]
    rw [hst]
    have Hh := Lib.hid (And.intro hh hst); clear hh hst
    go_enter Tryz.func240, Tryz.ntmps240
    go_wp2_with fail
    go_region_held3 (fun w' => w'.cell? ⟨bc, 0, none⟩ = some (.slice ca cuts.length cc) ∧ w'.cell? ⟨bv, 0, none⟩ = some (.func (.func f) #[] caps) ∧ w'.cell? ⟨bl, 0, none⟩ = some (.slice la locks.length lc))
      (first | exact ⟨h1, h2, h3⟩ | exact c3_below (by assumption) (by assumption) | exact c3_chg (by assumption) (by assumption) Hn.out)
      (first | (go_at_call 221; refine (contains_b _ _ cuts key _ _ Hh.out.1 (hcv.below hdr) hkc).mono ?_; rintro e' w1 ⟨rfl, hb1⟩) | (go_at_call 133; refine (doorsOpened_any _ _ locks key _ ((hlv.below hdr).below hb1) (hkc.below hb1) hll Hlen.out).mono ?_; rintro e' w2 ⟨v2, rfl, hF2, hb2⟩; have hb02 : Below w.heap.size w w2 := (hdr.trans (hb1.mono hdr.size)).trans (hb2.mono (by have := hb1.size; have := hdr.size; omega)); have hI2 := HV.out.keep _ _ _ _ HI.out hb02.size (fun b hb => hb02.block b (HF.out.1 b hb))) | (refine (HV.out.call s F _ _ _ _ _ key done rest H0.out.1 H0.out.2.1 hI2 (H0.out.2.2.1.then_below hb02) H0.out.2.2.2 ((hkc.below hb1).below hb2) HF.out.2 hF2.v1 (fun b hb hf => by have h6 : w1.heap.size ≤ b := hb; have := HF.out.1 b hf; have := hb1.size; have := hdr.size; omega) Hkl.out).mono ?_; rintro e' w3 ⟨F', rfl, hinv, hchg, hsub⟩))
    have Hfin := Lib.hid (And.intro hinv (And.intro ((Chg.of_below (F := F) hb02).trans hchg (fun i hi => .inl hi)) (fun b hb => by rcases hsub b hb with h | h; exact .inl h; right; have := hb02.size; omega : ∀ b, F' b → F b ∨ w.heap.size ≤ b)))
    clear hinv hchg hsub
    go_wp2_with fail
    go_ret
    exact ⟨F', rfl, Hfin.out⟩
  · have hst : outStep step cuts locks s key = (s, true) := by unfold outStep; rw [if_pos hh]
    rw [hst]
    have Hh := Lib.hid (And.intro hh hst); clear hh hst
    go_enter Tryz.func240, Tryz.ntmps240
    go_wp2_with fail
    refine wp_region_noPanic ?_
    refine wp_region_held_drew (S := fun w' => w'.cell? ⟨bc, 0, none⟩ = some (.slice ca cuts.length cc)) (by kernel_rfl) h1 (fun hHeld => ?_)
    (refine wpAnyH_take (i := 0) (v := .slice ca cuts.length cc) rfl (by kernel_rfl) (by kernel_rfl) (by kernel_rfl) (fun _ _ _ h => h) (Or.inl ⟨by kernel_rfl, fun w hSw => by (try dsimp only at hSw); go_split_ands; go_simp⟩) (by assumption) ?_; simp only [Act.put, List.setIfInBounds_toArray, List.set_cons_zero, List.set_cons_succ])
    (refine wpAnyH_take (i := 1) (v := .slice ka key.length kc) rfl (by kernel_rfl) (by kernel_rfl) (by kernel_rfl) (fun _ _ _ h => h) (Or.inl ⟨by kernel_rfl, fun w hSw => by (try dsimp only at hSw); go_split_ands; go_simp⟩) (by assumption) ?_; simp only [Act.put, List.setIfInBounds_toArray, List.set_cons_zero, List.set_cons_succ])
    (refine wpAnyH_ready (rs := [2]) (by kernel_rfl) (by simp) (AllReadyH.cons rfl (fun K hK => ?_) AllReadyH.nil); go_simp)
    go_at_call 221
    refine (contains_b _ _ cuts key _ _ Hh.out.1 (hcv.below hdr) hkc).mono ?_
    rintro e' w1 ⟨rfl, hb1⟩
    have hc1 : w1.cell? ⟨bc, 0, none⟩ = some (.slice ca cuts.length cc) := cell_keep h1 (by rw [hb1.block _ (lt_of_cell h1)]; rfl)
    dsimp only
    (refine hK.out _ _ hc1 (fun hHeld => ?_); clear hK K; (try simp only [Act.put, List.setIfInBounds_toArray, List.set_cons_zero, List.set_cons_succ]))
    (refine wpAnyH_take (i := 3) (v := .bool true) rfl (by kernel_rfl) (by kernel_rfl) (by kernel_rfl) (fun _ _ _ h => h) (Or.inl ⟨by kernel_rfl, fun w hSw => by (try dsimp only at hSw); go_split_ands; go_simp⟩) (by assumption) ?_; simp only [Act.put, List.setIfInBounds_toArray, List.set_cons_zero, List.set_cons_succ])
    (refine wpAnyH_take (i := 4) (v := undef) rfl (by kernel_rfl) (by kernel_rfl) (by kernel_rfl) (fun _ _ _ h => h) (Or.inr ⟨by kernel_rfl, rfl⟩) (by assumption) ?_; simp only [Act.put, List.setIfInBounds_toArray, List.set_cons_zero, List.set_cons_succ])
    (refine wpAnyH_take (i := 5) (v := undef) rfl (by kernel_rfl) (by kernel_rfl) (by kernel_rfl) (fun _ _ _ h => h) (Or.inr ⟨by kernel_rfl, rfl⟩) (by assumption) ?_; simp only [Act.put, List.setIfInBounds_toArray, List.set_cons_zero, List.set_cons_succ])
    (refine wpAnyH_take (i := 6) (v := undef) rfl (by kernel_rfl) (by kernel_rfl) (by kernel_rfl) (fun _ _ _ h => h) (Or.inr ⟨by kernel_rfl, rfl⟩) (by assumption) ?_; simp only [Act.put, List.setIfInBounds_toArray, List.set_cons_zero, List.set_cons_succ])
    (refine wpAnyH_take (i := 7) (v := undef) rfl (by kernel_rfl) (by kernel_rfl) (by kernel_rfl) (fun _ _ _ h => h) (Or.inr ⟨by kernel_rfl, rfl⟩) (by assumption) ?_; simp only [Act.put, List.setIfInBounds_toArray, List.set_cons_zero, List.set_cons_succ])
    (refine wpAnyH_take (i := 8) (v := undef) rfl (by kernel_rfl) (by kernel_rfl) (by kernel_rfl) (fun _ _ _ h => h) (Or.inr ⟨by kernel_rfl, rfl⟩) (by assumption) ?_; simp only [Act.put, List.setIfInBounds_toArray, List.set_cons_zero, List.set_cons_succ])
    (refine wpAnyH_take (i := 9) (v := undef) rfl (by kernel_rfl) (by kernel_rfl) (by kernel_rfl) (fun _ _ _ h => h) (Or.inr ⟨by kernel_rfl, rfl⟩) (by assumption) ?_; simp only [Act.put, List.setIfInBounds_toArray, List.set_cons_zero, List.set_cons_succ])
    (refine wpAnyH_take (i := 10) (v := .bool true) rfl (by kernel_rfl) (by kernel_rfl) (by kernel_rfl) (fun _ _ _ h => h) (Or.inl ⟨by kernel_rfl, fun w hSw => by (try dsimp only at hSw); go_split_ands; go_simp⟩) (by assumption) ?_; simp only [Act.put, List.setIfInBounds_toArray, List.set_cons_zero, List.set_cons_succ])
    (refine wpAnyH_take (i := 11) (v := .bool true) rfl (by kernel_rfl) (by kernel_rfl) (by kernel_rfl) (fun _ _ _ h => h) (Or.inl ⟨by kernel_rfl, fun w hSw => by (try dsimp only at hSw); go_split_ands; go_simp⟩) (by assumption) ?_; simp only [Act.put, List.setIfInBounds_toArray, List.set_cons_zero, List.set_cons_succ])
    refine wpAnyH_done (by kernel_rfl) (NoPanic.normal ?_) _
    refine cast_act (a' := ⟨#[.slice ka key.length kc, .pointer (some ⟨bc, 0, none⟩), .pointer (some ⟨bv, 0, none⟩), .pointer (some ⟨bl, 0, none⟩), undef, .bool true, .slice ca cuts.length cc, .slice ka key.length kc, .bool true, .bool true, undef, undef, undef, undef, undef, undef, .bool true], []⟩) (by kernel_rfl) ?_
    have hb01 : Below w.heap.size w w1 := hdr.trans (hb1.mono hdr.size)
    have Hb := Lib.hid hb01
    go_wp2_with fail
    go_ret
    exact ⟨F, rfl, HV.out.keep _ _ _ _ HI.out Hb.out.size (fun b hb => Hb.out.block b (HF.out.1 b hb)), Chg.of_below Hb.out, fun b hb => .inl hb⟩

set_option maxRecDepth 100000 in
set_option maxHeartbeats 1000000 in
theorem eachOutsider_any {t : List (List Int)} {n : Nat} (u v : Value) (hf : Fits m t cuts) (hn : (n : Int) = m.c) (W : World) (V : VisD m.c.toNat W F0 f caps step s0 (keysOf m) cuts (locksTo n t cuts (getl t 0).length) Inv) (hI : Inv s0 F0 W)
    (h : V2 (fun b => ¬ F0 b) W u t) (hc : V2 (fun b => ¬ F0 b) W v cuts) :
    Calls Tryz.prog 135 #[.agg #[.int .i64 m.c, .int .i64 m.d, .int .i64 m.s, .int .i64 m.e, .int .i64 m.l, u], v, .func (.func f) #[] caps] W
      (fun e w' => ∃ F', Inv (runL (outStep step cuts (locksTo n t cuts (getl t 0).length)) s0 (keysOf m)).1 F' w' ∧ Chg F0 W w' ∧ (∀ b, F' b → F0 b ∨ W.heap.size ≤ b) ∧ e = .returned undef) := by
  obtain ⟨a, c, rfl, hmx⟩ := h.form
  obtain ⟨a', c', rfl, hmx'⟩ := hc.form
  have hdoors := hf.doors
  have hFlt := V.lt _ _ _ hI
  have hok := hf.ok
  obtain ⟨locks, hlocks⟩ : ∃ x, x = locksTo n t cuts (getl t 0).length := ⟨_, rfl⟩
  have hll : locks.length ≤ 1000 := by rw [hlocks, locksTo_len]; omega
  have hnn : n = m.c.toNat := by omega
  have hlk : ∀ k, k < locks.length → (getll locks k).length = m.c.toNat := fun k hk => by rw [hlocks]; rw [hlocks, locksTo_len] at hk; rw [lock_len hk, hnn]
  rw [← hlocks] at V ⊢
  have Hlocks := Lib.hid hlocks; clear hlocks
  have Hlk := Lib.hid (And.intro hlk hnn); clear hlk hnn
  obtain ⟨WA, hWA⟩ : ∃ WA, WA = ((W.alloc (.cells #[.int .i64 m.c, .int .i64 m.d, .int .i64 m.s, .int .i64 m.e, .int .i64 m.l, .slice a t.length c] 28)).alloc (.cells #[.slice a' cuts.length c'] 26)).alloc (.cells #[.func (.func f) #[] caps] 51) := ⟨_, rfl⟩
  have hbA : Below W.heap.size W WA := by rw [hWA]; exact by (repeat (first | (with_reducible refine Below.setCell ?_ ?_ _) | (with_reducible refine Below.alloc ?_ ?_ _) | (with_reducible refine Below.drew ?_) | (with_reducible refine below_drewN ?_ _) | (with_reducible exact Below.refl _ _) | (with_reducible assumption) | (with_reducible refine Below.trans ?_ (Below.mono (by with_reducible assumption) ?_)) | go_size))
  have hzA : WA.heap.size = W.heap.size + 3 := by rw [hWA]; simp
  have hA0 : WA.heap[W.heap.size]? = some (.cells #[.int .i64 m.c, .int .i64 m.d, .int .i64 m.s, .int .i64 m.e, .int .i64 m.l, .slice a t.length c] 28 (0, 0)) := by rw [hWA]; simp only [heap_alloc_at, World.size_alloc]; simp; omega
  have hA1 : WA.heap[W.heap.size + 1]? = some (.cells #[.slice a' cuts.length c'] 26 (0, 0)) := by rw [hWA]; simp only [heap_alloc_at, World.size_alloc]; simp
  have hA2 : WA.heap[W.heap.size + 1 + 1]? = some (.cells #[.func (.func f) #[] caps] 51 (0, 0)) := by rw [hWA]; simp only [heap_alloc_at, World.size_alloc]; simp
  have Hf := Lib.hid (And.intro hf (And.intro hn hok)); clear hf hn hok
  have HV := Lib.hid (And.intro V (And.intro hI hFlt)); clear V hI hFlt
  have HzA := Lib.hid hzA; clear hzA
  go_enter Tryz.func135, Tryz.ntmps135
  go_wp2_with fail
  rw [← hWA]
  have HA := Lib.hid (And.intro hA0 (And.intro hA1 hA2)); clear hA0 hA1 hA2
  have HWA := Lib.hid hWA; clear hWA
  refine (partLocks_any m _ _ t cuts n _ Hf.out.1 Hf.out.2.1 (h.below hbA) (hc.below hbA)).mono ?_
  rintro e' wL ⟨lv, rfl, hLk0, hbL⟩
  rw [← Hlocks.out] at hLk0
  obtain ⟨la, lc, rfl, hlm⟩ := hLk0.form
  have hbL0 := hbA.trans (hbL.mono hbA.size)
  have hsz : W.heap.size + 2 < wL.heap.size := by have := hbL.size; have := HzA.out; omega
  have hxL : ∀ o, wL.cell? ⟨W.heap.size, o, none⟩ = (#[.int .i64 m.c, .int .i64 m.d, .int .i64 m.s, .int .i64 m.e, .int .i64 m.l, .slice a t.length c] : Array Value)[o]? := fun o => by
    have := heap_below HA.out.1 hbL (by have := HzA.out; omega)
    exact cell_of_block this o
  obtain ⟨wE, hwE, hbE, hzE, HZE, hcE, hhE⟩ := box_facts wL #[.slice la locks.length lc] 114
  have hxE : ∀ o, (wL.alloc (.cells #[.slice la locks.length lc] 114)).cell? ⟨W.heap.size, o, none⟩ = (#[.int .i64 m.c, .int .i64 m.d, .int .i64 m.s, .int .i64 m.e, .int .i64 m.l, .slice a t.length c] : Array Value)[o]? := fun o => by
    rw [← hwE, (bcell hbE).1 _ _ (by omega), hxL]
  have HhE := Lib.hid hhE; clear hhE hcE
  go_wp2_with fail
  rw [← hwE]
  have HwE := Lib.hid hwE; clear hwE hxL hxE
  have hb0E := hbL0.trans (hbE.mono hbL0.size)
  have hE1 := heap_below (heap_below HA.out.2.1 hbL (by have := HzA.out; omega)) hbE (by omega)
  have hE2 := heap_below (heap_below HA.out.2.2 hbL (by have := HzA.out; omega)) hbE (by omega)
  have hnF : ∀ b, W.heap.size ≤ b → ¬ F0 b := fun b hb hf => by have := HV.out.2.2 b hf; omega
  have VK : VisOk m.c.toNat wE F0 240 #[.pointer (some ⟨W.heap.size + 1, 0, none⟩), .pointer (some ⟨W.heap.size + 1 + 1, 0, none⟩), .pointer (some ⟨wL.heap.size, 0, none⟩)] (outStep step cuts locks) s0 (genF m (fun _ _ => true) [] false m.c.toNat []) Inv := by
    refine ⟨enters_out, HV.out.1.keep, HV.out.1.lt, ?_⟩
    intro s F S w v key done rest hL hs hI hc0 hF hV hS hkl
    have hL' : keysOf m = done ++ key :: rest := (keysA_all m).symm.trans hL
    have hc0' : Chg F0 W w := (Chg.of_below (F := F0) hb0E).trans hc0 (fun i hi => .inl hi)
    have hsz2 := hb0E.size
    have hnb : ∀ b, W.heap.size ≤ b → b < wE.heap.size → ¬ F b := fun b h1 h2 h3 => by
      rcases hF b h3 with h4 | h4
      · exact hnF b h1 h4
      · omega
    have hlt1 : W.heap.size + 1 + 1 < wE.heap.size := by have := hbE.size; omega
    refine out_call HV.out.1 (W.heap.size + 1) (W.heap.size + 1 + 1) wL.heap.size (.slice a' cuts.length c') (.slice la locks.length lc) s F S w v key done rest hL' hs hI hc0' (fun b hb => by rcases hF b hb with h4 | h4; exact .inl h4; right; omega) hV hS hkl
      (cell_of_block (hc0.heap hE1 (hnF _ (by omega))) 0) (cell_of_block (hc0.heap hE2 (hnF _ (by omega))) 0) (cell_of_block (hc0.heap HhE.out (hnF _ (by omega))) 0) ⟨hnb _ (by omega) (by omega), hnb _ (by omega) hlt1, hnb _ (by omega) (by omega)⟩ ?_ ?_ hll Hlk.out.1
    · have h5 : V2 (fun b => ¬ F0 b ∧ b < wE.heap.size) wE (.slice a' cuts.length c') cuts := (hc.below hb0E).mono (fun b h1 h2 => ⟨h1, h2⟩) (fun _ _ _ => rfl)
      exact h5.mono (fun b h1 _ h3 => by rcases hF b h3 with h4 | h4; exact h1.1 h4; have := h1.2; omega) (hc0.keep fun b hb => hb.1)
    · have h5 : V3 (fun b => ¬ F0 b ∧ b < wE.heap.size) wE (.slice la locks.length lc) locks := (hLk0.below hbE).mono (fun b h1 h2 => ⟨hnF b (by have h1' : WA.heap.size ≤ b := h1; have := HzA.out; omega), h2⟩) (fun _ _ _ => rfl)
      exact h5.mono (fun b h1 _ h3 => by rcases hF b h3 with h4 | h4; exact h1.1 h4; have := h1.2; omega) (hc0.keep fun b hb => hb.1)
  have hIE : Inv s0 F0 wE := HV.out.1.keep _ _ _ _ HV.out.2.1 hb0E.size (fun b hb => hb0E.block b (HV.out.2.2 b hb))
  refine (eachKey_any Hf.out.2.2 wE VK (.inl ⟨rfl, fun _ _ => rfl⟩) hIE).mono ?_
  rintro e w' ⟨F', hinv, hchg, hsub, rfl⟩
  rw [show genF m (fun _ _ => true) [] false m.c.toNat [] = keysOf m from keysA_all m] at hinv
  have Hfin := Lib.hid (And.intro hinv (And.intro hchg hsub)); clear hinv hchg hsub VK hIE
  go_wp2_with fail
  go_end0
  exact ⟨F', Hfin.out.1, (Chg.of_below (F := F0) hb0E).trans Hfin.out.2.1 (fun i hi => .inl hi), (fun b hb => by rcases Hfin.out.2.2 b hb with h4 | h4; exact .inl h4; right; have := hb0E.size; omega), rfl⟩
end
end Go.Proofs.YtmfgdoflddhngaaGreat

namespace Go.Proofs.YtmfgdoflddhngaaGreat
open Go.RowKit
set_option linter.unusedVariables false
set_option linter.unusedSimpArgs false

/-- Block G holds the numbers l and nothing else. -/
def BlkI (w : World) (G : Nat) (l : List Int) : Prop := ∃ T, w.heap[G]? = some (.cells (l.map (Value.int .i64)).toArray T (0, 0))
theorem BlkI.cell {w : World} {G k : Nat} {l : List Int} (h : BlkI w G l) (hk : k < l.length) : w.cell? ⟨G, k, none⟩ = some (.int .i64 (geti l k)) := by
  obtain ⟨T, h⟩ := h
  rw [cell_of_block h, geti_eq hk]
  simp [hk]
theorem BlkI.frozen {w : World} {G : Nat} {l : List Int} (h : BlkI w G l) (k : Nat) : w.frozen? ⟨G, k, none⟩ = false := by
  obtain ⟨T, h⟩ := h; exact frozen_of_block h k
theorem BlkI.set {w : World} {G : Nat} {l : List Int} (h : BlkI w G l) (k : Nat) (x : Int) : BlkI (w.setCell ⟨G, k, none⟩ (.int .i64 x)) G (l.set k x) := by
  obtain ⟨T, h⟩ := h
  refine ⟨T, ?_⟩
  rw [heap_setCell_self h]
  congr 2
  apply Array.ext'
  simp [List.map_set]
theorem BlkI.keep {w w' : World} {G : Nat} {l : List Int} (h : BlkI w G l) (hk : w'.heap[G]? = w.heap[G]?) : BlkI w' G l := by
  obtain ⟨T, h⟩ := h; exact ⟨T, by rw [hk]; exact h⟩
theorem BlkI.lt {w : World} {G : Nat} {l : List Int} (h : BlkI w G l) : G < w.heap.size := by
  obtain ⟨T, h⟩ := h; exact lt_of_heap h
theorem BlkI.x1 {w : World} {G off : Nat} {l : List Int} (h : BlkI w G l) (ho : off ≤ l.length) (hl : l.length ≤ 1000000) : X1 w (.slice (some ⟨G, off, none⟩) (l.length - off) (l.length - off)) (l.drop off) G := by
  obtain ⟨T, h⟩ := h
  refine ⟨_, l.length - off, by rw [List.length_drop], by rw [List.length_drop]; exact Nat.le_refl _, by unfold maxLen; omega, fun _ => ⟨off, _, T, rfl, h, fun k hk => ?_⟩⟩
  rw [List.length_drop] at hk
  have e : geti (l.drop off) k = geti l (off + k) := by simp [geti]
  rw [e, geti_eq (by omega)]
  simp [show off + k < l.length from by omega]
theorem blk_made {w : World} {G : Nat} {cs : Array Value} {T : TypeId} {n : Nat} (h : w.heap[G]? = some (.cells cs T (0, 0))) (hc : cs.toList = (madeCells (Value.int .i64 0).cells (n * 1)).toList) : BlkI w G (List.replicate n 0) := by
  refine ⟨T, ?_⟩
  rw [h]
  congr 2
  apply Array.ext'
  rw [hc, Nat.mul_one, show (Value.int .i64 0).cells = #[Value.int .i64 0] from rfl, toList_madeCells_one]
  simp
theorem cntL_set {locks : List (List (List Int))} {ks : List (List Int)} {k : List Int} {lo n : Nat} (h1 : lo ≤ ndoors locks k) (h2 : ndoors locks k < lo + n) :
    (cntL locks ks lo n).set (ndoors locks k - lo) (geti (cntL locks ks lo n) (ndoors locks k - lo) + 1) = cntL locks (ks ++ [k]) lo n := by
  apply List.ext_getElem (by simp [cntL])
  intro i g1 g2
  have hi : i < n := by simpa [cntL] using g2
  rw [List.getElem_set]
  by_cases e : ndoors locks k - lo = i
  · rw [if_pos e, e, cntL_get hi]
    simp only [cntL, List.getElem_map, List.getElem_range, cntN_snoc]
    rw [if_pos (by omega)]; simp
  · rw [if_neg e]
    simp only [cntL, List.getElem_map, List.getElem_range, cntN_snoc]
    rw [if_neg (by omega)]; simp
def keepStep (s : List (List Int)) (k : List Int) (ds : List Int) : List (List Int) × Bool := (s ++ [k], true)
theorem keep_run (cuts : List (List Int)) (locks : List (List (List Int))) : ∀ (l s0 : List (List Int)), runL (outStep keepStep cuts locks) s0 l = (s0 ++ outsOf cuts l, true)
  | [], s0 => by simp [runL, outsOf]
  | k :: l, s0 => by
    have e : (outStep keepStep cuts locks s0 k) = (if hasL cuts k = true then s0 else s0 ++ [k], true) := by
      unfold outStep keepStep; split <;> rfl
    simp only [runL, e, if_true]
    rw [keep_run cuts locks l]
    unfold outsOf
    rw [List.filter_cons]
    cases hasL cuts k <;> simp
theorem outsOf_length (cuts ks : List (List Int)) : (outsOf cuts ks).length ≤ ks.length := List.length_filter_le _ _

/-- The counts in block G, seen through the cell in block OB. -/
def PrfInv (locks : List (List (List Int))) (lo N G OB : Nat) (s : List (List Int)) (F : Nat → Prop) (w : World) : Prop :=
  (∀ b, F b ↔ b = G ∨ b = OB) ∧ BlkI w G (cntL locks s lo N) ∧ ∃ T, w.heap[OB]? = some (.cells #[.slice (some ⟨G, 0, none⟩) N N] T (0, 0))
theorem enters_prof : Enters 244 := fun args w => by kernel_rfl
theorem prof1_any {S : Nat → Prop} (kv dv : Value) (ds : List Int) (l : List Int) (G OB : Nat) (T : TypeId) (w : World) (hd : V1 S w dv ds) (hb : BlkI w G l) (hlt : ds.length < l.length) (hl : l.length ≤ 1000) (hx : 0 ≤ geti l ds.length ∧ geti l ds.length ≤ 1000000)
    (hOB : w.heap[OB]? = some (.cells #[.slice (some ⟨G, 0, none⟩) l.length l.length] T (0, 0))) :
    Calls Tryz.prog 244 #[kv, dv, .pointer (some ⟨OB, 0, none⟩)] w fun e w' => e = .returned (.bool true) ∧ w' = w.setCell ⟨G, ds.length, none⟩ (.int .i64 (geti l ds.length + 1)) := by
  obtain ⟨da, dc, rfl, hdm⟩ := hd.form
  have hc := cell_of_block hOB 0
  have hg := hb.cell hlt
  have hf := hb.frozen ds.length
  simp at hc
  obtain ⟨x, hxe⟩ : ∃ x, geti l ds.length = x := ⟨_, rfl⟩
  rw [hxe] at hg hx ⊢
  clear hOB hb hxe
  go_enter Tryz.func244, Tryz.ntmps244
  go_wp2_with fail
  go_ret
  exact ⟨rfl, rfl⟩
theorem prof_ok (m : Mk) (hm : m.ok = true) (cuts : List (List Int)) (locks : List (List (List Int))) (N G OB : Nat) (W : World) (hN : locks.length < N) (hN2 : N ≤ 1000) (hne : G ≠ OB) :
    VisD m.c.toNat W (fun b => b = G ∨ b = OB) 244 #[.pointer (some ⟨OB, 0, none⟩)] keepStep [] (keysOf m) cuts locks (PrfInv locks 0 N G OB) := by
  refine ⟨enters_prof, ?_, ?_, ?_⟩
  · rintro s F w w' ⟨h1, h2, T, h3⟩ _ h4
    exact ⟨h1, h2.keep (h4 _ ((h1 G).2 (.inl rfl))), T, by rw [h4 _ ((h1 OB).2 (.inr rfl))]; exact h3⟩
  · rintro s F w ⟨h1, h2, T, h3⟩ b hb
    rcases (h1 b).1 hb with e | e
    · rw [e]; exact h2.lt
    · rw [e]; exact lt_of_heap h3
  · rintro s F S S2 w v dv key done rest hL hr ⟨h1, h2, T, h3⟩ hchg hsub hV hS hD hS2 hlen
    rw [keep_run, List.nil_append] at hr
    simp only [Prod.mk.injEq, and_true] at hr
    have hle := keysOf_length hm
    rw [hL] at hle
    have hol := outsOf_length cuts done
    rw [hr] at hol
    have hnd := ndoors_le locks key
    have hcl := cntL_len locks s 0 N
    have hge := cntL_get (locks := locks) (ks := s) (lo := 0) (n := N) (j := ndoors locks key) (by omega)
    have hcn := cntN_le locks s (0 + ndoors locks key)
    simp at hle
    refine (prof1_any v dv (doorsOf locks key) (cntL locks s 0 N) G OB T w hD h2 (by rw [hcl]; show ndoors locks key < N; omega) (by omega) (by show 0 ≤ geti _ (ndoors locks key) ∧ geti _ (ndoors locks key) ≤ _; rw [hge]; omega) (by rw [hcl]; exact h3)).mono ?_
    rintro e w' ⟨rfl, rfl⟩
    refine ⟨F, rfl, ⟨h1, ?_, T, ?_⟩, (Chg.refl _ _).setCell (.inl ((h1 G).2 (.inl rfl))) _, fun b hb => .inl hb⟩
    · have := h2.set (ndoors locks key) (geti (cntL locks s 0 N) (ndoors locks key) + 1)
      have e := cntL_set (locks := locks) (ks := s) (k := key) (lo := 0) (n := N) (by omega) (by omega)
      rw [Nat.sub_zero] at e
      rw [e] at this
      exact this
    · rw [heap_setCell_other _ (fun e => hne e.symm)]; exact h3

set_option maxRecDepth 100000 in
theorem profileOf_any {S S' : Nat → Prop} (m : Mk) (u v : Value) (t cuts : List (List Int)) (n : Nat) (W : World) (hf : Fits m t cuts) (hn : (n : Int) = m.c) (h : V2 S W u t) (hc : V2 S' W v cuts) :
    Calls Tryz.prog 139 #[.agg #[.int .i64 m.c, .int .i64 m.d, .int .i64 m.s, .int .i64 m.e, .int .i64 m.l, u], v] W fun e' w' => ∃ G : Nat, e' = .returned (.slice (some ⟨G, 0, none⟩) ((getl t 0).length + 1) ((getl t 0).length + 1)) ∧ W.heap.size ≤ G ∧
      BlkI w' G (cntL (locksTo n t cuts (getl t 0).length) (outsOf cuts (keysOf m)) 0 ((getl t 0).length + 1)) ∧ Below W.heap.size W w' := by
  obtain ⟨a, c, rfl, hmx⟩ := h.form
  obtain ⟨a', c', rfl, hmx'⟩ := hc.form
  have hrows := hf.rows
  have hdoors := hf.doors
  obtain ⟨W1, hW1, hB01, hz01, HZ01, hc01, hh01⟩ := box_facts W #[.int .i64 m.c, .int .i64 m.d, .int .i64 m.s, .int .i64 m.e, .int .i64 m.l, .slice a t.length c] 28
  have hV1 := (h.below hB01).old
  have hC1 := (hc.below hB01).old
  obtain ⟨b0, off0, a0, c0, rfl, _, hcc0, hr0⟩ := h.cell (k := 0) (by omega)
  simp only [Nat.add_zero] at hcc0
  have Hf := Lib.hid (And.intro hf hn); clear hf hn
  have hN : (getl t 0).length + 1 ≤ 13 := by omega
  obtain ⟨D, hD⟩ : ∃ D, (getl t 0).length = D := ⟨_, rfl⟩
  rw [hD] at hcc0 hdoors hN ⊢
  have hcA : ∀ o1, (W.alloc o1).cell? ⟨b0, off0, none⟩ = some (.slice a0 D c0) := fun o1 => cell_keep hcc0 ((show Below W.heap.size W (W.alloc o1) from by go_grown).block _ (lt_of_cell hcc0))
  obtain ⟨locks, hlocks⟩ : ∃ x, x = locksTo n t cuts D := ⟨_, rfl⟩
  have hll : locks.length = D := by rw [hlocks, locksTo_len]
  rw [← hlocks]
  have HD := Lib.hid (And.intro hD (And.intro hlocks hll)); clear hD hlocks hll hcc0 hr0
  go_enter Tryz.func139, Tryz.ntmps139
  go_wp2_with (at_make; refine wp_mk _ rfl _ _ 46 rfl 2 (.int .i64 0) 1 8 Tryz.underlying46 inf_int (D + 1) rfl rfl (by omega) (by omega) ?_; intro w2 cs0 hh0 hs0 ht0 hB0 hsz0; rw [← hW1] at hh0 hB0 hsz0; have hx2 : ∀ o, w2.cell? ⟨W.heap.size, o, none⟩ = (#[.int .i64 m.c, .int .i64 m.d, .int .i64 m.s, .int .i64 m.e, .int .i64 m.l, .slice (some ⟨b0, off0, none⟩) t.length c] : Array Value)[o]? := (fun o => by rw [(bcell hB0).1 _ _ hz01, hc01]); have hz2 : W.heap.size < w2.heap.size := (by have := hB0.size; omega))
  have hblk := blk_made hh0 ht0
  rw [HZ01.out] at hblk
  obtain ⟨w3, hw3, hb23, hz23, HZ23, hc23, hh23⟩ := box_facts w2 #[.slice (some ⟨W.heap.size + 1, 0, none⟩) (D + 1) (D + 1)] 46
  rw [← hw3]
  have Hw3 := Lib.hid hw3; clear hw3
  have hB13 := hB0.trans (hb23.mono hB0.size)
  have hb2 := hblk.lt
  have hI : PrfInv locks 0 (D + 1) (W.heap.size + 1) w2.heap.size [] (fun b => b = W.heap.size + 1 ∨ b = w2.heap.size) w3 := ⟨fun b => Iff.rfl, by rw [cntL_nil]; exact hblk.keep (hb23.block _ hb2), _, hh23⟩
  have hV3 : V2 (fun b => ¬ (b = W.heap.size + 1 ∨ b = w2.heap.size)) w3 (.slice (some ⟨b0, off0, none⟩) t.length c) t := (hV1.below hB13).mono (fun b h1 h2 => by have h1' : b < W1.heap.size := h1; have := HZ01.out; omega) (fun _ _ _ => rfl)
  have hC3 : V2 (fun b => ¬ (b = W.heap.size + 1 ∨ b = w2.heap.size)) w3 (.slice a' cuts.length c') cuts := (hC1.below hB13).mono (fun b h1 h2 => by have h1' : b < W1.heap.size := h1; have := HZ01.out; omega) (fun _ _ _ => rfl)
  have hok := Hf.out.1.ok
  have hlk : locksTo n t cuts (getl t 0).length = locks := by rw [HD.out.1]; exact HD.out.2.1.symm
  have hvd : VisD m.c.toNat w3 (fun b => b = W.heap.size + 1 ∨ b = w2.heap.size) 244 #[.pointer (some ⟨w2.heap.size, 0, none⟩)] keepStep [] (keysOf m) cuts (locksTo n t cuts (getl t 0).length) (PrfInv locks 0 (D + 1) (W.heap.size + 1) w2.heap.size) := by
    rw [hlk]; exact prof_ok m hok cuts locks (D + 1) (W.heap.size + 1) w2.heap.size w3 (by have := HD.out.2.2; omega) (by omega) (by omega)
  have hall := eachOutsider_any (.slice (some ⟨b0, off0, none⟩) t.length c) (.slice a' cuts.length c') Hf.out.1 Hf.out.2 w3 hvd hI hV3 hC3
  rw [hlk, keep_run, List.nil_append] at hall
  refine hall.mono ?_
  rintro e' w4 ⟨F', ⟨hF', hblk4, T4, hO4⟩, hchg, hsub, rfl⟩
  have hc4 := cell_of_block hO4 0
  simp at hc4
  have Hfin := Lib.hid (And.intro hblk4 hchg); clear hblk4 hchg hall hvd hI hx2 hO4
  go_wp2_with fail
  go_ret
  exact ⟨_, rfl, by omega, Hfin.out.1, hB01.trans ((hB13.trans (Hfin.out.2.to_below (fun i hi => by have := HZ01.out; omega) hB13.size)).mono (by omega))⟩
end Go.Proofs.YtmfgdoflddhngaaGreat
