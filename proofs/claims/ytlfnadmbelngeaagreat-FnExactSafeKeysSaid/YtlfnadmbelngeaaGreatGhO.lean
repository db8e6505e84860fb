/- The first outsiders of a kind: the program and the reference. No conditions. -/
import Derived.Test.YtlfnadmbelngeaaGreatGhF
import Derived.Test.YtlfnadmbelngeaaGreatDesign
namespace Go.Proofs.YtlfnadmbelngeaaGreat
open Go.RowKit
set_option linter.unusedVariables false
set_option linter.unusedSimpArgs false

def listAns (m : Mk) (t cuts : List (List Int)) (most : Int) (gb : Bool) : List (List Int) × Int :=
  if designC m t cuts ≠ 0 then ([], designC m t cuts) else if inB most 0 300 = false then ([], 2) else ((selL (locksTo m.c.toNat t cuts (getl t 0).length) cuts gb (keysOf m)).take most.toNat, 0)
def ghostsAns (m : Mk) (t cuts : List (List Int)) (most : Int) : List (List Int) × Int := listAns m t cuts most true
def safeAns (m : Mk) (t cuts : List (List Int)) (most : Int) : List (List Int) × Int := listAns m t cuts most false
theorem F2.nil0 {B : Nat} {w : World} : F2 B w (.slice none 0 0) [] := ⟨0, fun _ => 0, ⟨none, 0, rfl, Nat.le_refl _, Nat.zero_le _, fun hn => absurd rfl hn, fun k hk => by simp at hk⟩, fun hn => absurd rfl hn, fun k hk => by simp at hk⟩
set_option maxRecDepth 100000 in
set_option maxHeartbeats 1000000 in
theorem firstOutsiders_any {S S' : Nat → Prop} (m : Mk) (u v : Value) (t cuts : List (List Int)) (most : Int) (gb : Bool) (W : World) (h : V2 S W u t) (hc : V2 S' W v cuts) :
    Calls Tryz.prog 45 #[.agg #[.int .i64 m.c, .int .i64 m.d, .int .i64 m.s, .int .i64 m.e, .int .i64 m.l, u], v, .int .i64 most, .bool gb] W fun e' w' => ∃ v', e' = .returned (.tuple #[v', .int .i64 (listAns m t cuts most gb).2]) ∧ F2 W.heap.size w' v' (listAns m t cuts most gb).1 ∧ Below W.heap.size W w' := by
  obtain ⟨a, c, rfl, hmx⟩ := h.form
  obtain ⟨a', c', rfl, hmx'⟩ := hc.form
  obtain ⟨WA, hWA⟩ : ∃ WA, WA = ((W.alloc (.cells #[.int .i64 m.c, .int .i64 m.d, .int .i64 m.s, .int .i64 m.e, .int .i64 m.l, .slice a t.length c] 34)).alloc (.cells #[.int .i64 most] 2)).alloc (.cells #[.bool gb] 4) := ⟨_, rfl⟩
  have hbA : Below W.heap.size W WA := by rw [hWA]; exact by (repeat (first | (with_reducible refine Below.setCell ?_ ?_ _) | (with_reducible refine Below.alloc ?_ ?_ _) | (with_reducible refine Below.drew ?_) | (with_reducible refine below_drewN ?_ _) | (with_reducible exact Below.refl _ _) | (with_reducible assumption) | (with_reducible refine Below.trans ?_ (Below.mono (by with_reducible assumption) ?_)) | go_size))
  have hzA : WA.heap.size = W.heap.size + 3 := by rw [hWA]; simp
  have hA0 : WA.heap[W.heap.size]? = some (.cells #[.int .i64 m.c, .int .i64 m.d, .int .i64 m.s, .int .i64 m.e, .int .i64 m.l, .slice a t.length c] 34 (0, 0)) := by rw [hWA]; simp only [heap_alloc_at, World.size_alloc]; simp; omega
  have hA1 : WA.heap[W.heap.size + 1]? = some (.cells #[.int .i64 most] 2 (0, 0)) := by rw [hWA]; simp only [heap_alloc_at, World.size_alloc]; simp
  have hA2 : WA.heap[W.heap.size + 1 + 1]? = some (.cells #[.bool gb] 4 (0, 0)) := by rw [hWA]; simp only [heap_alloc_at, World.size_alloc]; simp
  have HA := Lib.hid (And.intro hA0 (And.intro hA1 hA2)); clear hA0 hA1 hA2
  have hV1 := (h.below hbA).any
  have hC1 := (hc.below hbA).any
  have hcode := designCode_any m _ _ t cuts WA hV1 hC1
  by_cases hp : designC m t cuts = 0
  · rw [hp] at hcode
    have hf := (design_fits hp).1
    have hmc := mc_nat hf.ok
    cases hi : inB most 0 300
    · have hfin : listAns m t cuts most gb = ([], 2) := by unfold listAns; rw [if_neg (by rw [hp]; decide), if_pos hi]
      rw [hfin]
      have Hp := Lib.hid (And.intro hp (And.intro hf (And.intro hmc hfin))); clear hp hf hmc hfin
      have Hi := Lib.hid hi; clear hi
      go_enter Tryz.func45, Tryz.ntmps45
      go_wp2_with fail
      rw [← hWA]
      refine hcode.mono ?_
      rintro e' w2 ⟨rfl, hb2⟩
      have hbA2 := hbA.trans (hb2.mono hbA.size)
      have hx2 : ∀ o, w2.cell? ⟨W.heap.size, o, none⟩ = (#[.int .i64 m.c, .int .i64 m.d, .int .i64 m.s, .int .i64 m.e, .int .i64 m.l, .slice a t.length c] : Array Value)[o]? := fun o => cell_of_block (heap_below HA.out.1 hb2 (by omega)) o
      have hM2 : w2.cell? ⟨W.heap.size + 1, 0, none⟩ = some (.int .i64 most) := cell_of_block (heap_below HA.out.2.1 hb2 (by omega)) 0
      have hG2 : w2.cell? ⟨W.heap.size + 1 + 1, 0, none⟩ = some (.bool gb) := cell_of_block (heap_below HA.out.2.2 hb2 (by omega)) 0
      have hz2 : W.heap.size + 1 + 1 < w2.heap.size := by have := hb2.size; omega
      go_wp2_with (go_at_call 43; refine (within_b _ _ _ _ _ Hi.out).mono ?_; rintro e' w' ⟨rfl, rfl⟩)
      go_ret2
      exact ⟨_, rfl, F2.nil0, hbA2⟩
    · have hm := inB_iff.1 hi
      have hfin : listAns m t cuts most gb = ((selL (locksTo m.c.toNat t cuts (getl t 0).length) cuts gb (keysOf m)).take most.toNat, 0) := by unfold listAns; rw [if_neg (by rw [hp]; decide), if_neg (by rw [hi]; decide)]
      rw [hfin]
      obtain ⟨M, rfl⟩ : ∃ M : Nat, most = (M : Int) := ⟨most.toNat, by omega⟩
      rw [show ((M : Int)).toNat = M from rfl]
      have Hp := Lib.hid (And.intro hp (And.intro hf (And.intro hmc (And.intro hfin hm)))); clear hp hf hmc hfin hm
      have Hi := Lib.hid hi; clear hi
      obtain ⟨locks, hlocks⟩ : ∃ x, x = locksTo m.c.toNat t cuts (getl t 0).length := ⟨_, rfl⟩
      rw [← hlocks]
      have Hlk := Lib.hid hlocks; clear hlocks
      go_enter Tryz.func45, Tryz.ntmps45
      go_wp2_with fail
      rw [← hWA]
      refine hcode.mono ?_
      rintro e' w2 ⟨rfl, hb2⟩
      have hbA2 := hbA.trans (hb2.mono hbA.size)
      have hx2 : ∀ o, w2.cell? ⟨W.heap.size, o, none⟩ = (#[.int .i64 m.c, .int .i64 m.d, .int .i64 m.s, .int .i64 m.e, .int .i64 m.l, .slice a t.length c] : Array Value)[o]? := fun o => cell_of_block (heap_below HA.out.1 hb2 (by omega)) o
      have hM2 : w2.cell? ⟨W.heap.size + 1, 0, none⟩ = some (.int .i64 (M : Int)) := cell_of_block (heap_below HA.out.2.1 hb2 (by omega)) 0
      have hG2 : w2.cell? ⟨W.heap.size + 1 + 1, 0, none⟩ = some (.bool gb) := cell_of_block (heap_below HA.out.2.2 hb2 (by omega)) 0
      have hz2 : W.heap.size + 1 + 1 < w2.heap.size := by have := hb2.size; omega
      obtain ⟨w3, hw3, hb23, hz23, HZ23, _, _⟩ := box_facts w2 #[] 29
      obtain ⟨w4, hw4, hb34, hz34, HZ34, _, hh34⟩ := box_facts w3 #[.slice (some ⟨w2.heap.size, 0, none⟩) 0 0] 24
      have hb24 := hb23.trans (hb34.mono hb23.size)
      have hx4 : ∀ o, w4.cell? ⟨W.heap.size, o, none⟩ = (#[.int .i64 m.c, .int .i64 m.d, .int .i64 m.s, .int .i64 m.e, .int .i64 m.l, .slice a t.length c] : Array Value)[o]? := fun o => by rw [(bcell hb24).1 _ _ (by omega), hx2]
      have hw4x : w4 = (w2.alloc (.cells #[] 29)).alloc (.cells #[.slice (some ⟨w2.heap.size, 0, none⟩) 0 0] 24) := by rw [hw4, hw3]
      have hx4' : ∀ o, ((w2.alloc (.cells #[] 29)).alloc (.cells #[.slice (some ⟨w2.heap.size, 0, none⟩) 0 0] 24)).cell? ⟨W.heap.size, o, none⟩ = (#[.int .i64 m.c, .int .i64 m.d, .int .i64 m.s, .int .i64 m.e, .int .i64 m.l, .slice a t.length c] : Array Value)[o]? := fun o => by rw [← hw4x]; exact hx4 o
      have hown3 : w3.ownsRow W.heap.size 29 1 (.slice (some ⟨w2.heap.size, 0, none⟩) 0 0) 0 [] := by rw [hw3]; exact own_lit0 w2 _ _ 1 (by omega)
      have hown4 := own_keep hown3 hb34
      have Hw4 := Lib.hid (And.intro hw4x (And.intro hh34 (And.intro HZ23.out (And.intro HZ34.out hown4)))); clear hw4x hh34 hw3 hw4 hown3 hown4
      go_wp2_with (go_at_call 43; refine (within_b _ _ _ _ _ Hi.out).mono ?_; rintro e' w' ⟨rfl, rfl⟩)
      rw [← Hw4.out.1]
      clear hx4'
      have hz3 := Hw4.out.2.2.1
      have hz4 := Hw4.out.2.2.2.1
      have hbA4 := hbA2.trans (hb24.mono hbA2.size)
      have hh4 := Hw4.out.2.1
      rw [hz3] at hh4
      obtain ⟨F0, hF0⟩ : ∃ F0, F0 = OutF (w2.heap.size + 1) (.slice (some ⟨w2.heap.size, 0, none⟩) 0 0) [] (fun _ => 0) := ⟨_, rfl⟩
      have hFb : ∀ b, F0 b → w2.heap.size ≤ b := fun b hb => by
        rw [hF0] at hb
        rcases hb with e | e | ⟨k, h1, _⟩
        · omega
        · have e2 : w2.heap.size = b := by simpa [Value.ownBlock] using e
          omega
        · simp at h1
      have hG4 := cell_keep hG2 (hb24.block _ (lt_of_cell hG2))
      have hM4 := cell_keep hM2 (hb24.block _ (lt_of_cell hM2))
      have hok := Hp.out.2.1.ok
      have hnG : ¬ F0 (W.heap.size + 1 + 1) := fun hb => by have := hFb _ hb; omega
      have hnM : ¬ F0 (W.heap.size + 1) := fun hb => by have := hFb _ hb; omega
      have hvd := gh_ok m hok cuts (locksTo m.c.toNat t cuts (getl t 0).length) gb M W.heap.size (W.heap.size + 1 + 1) (w2.heap.size + 1) (W.heap.size + 1) w4 F0 hG4 hM4 ⟨hnG, hnM⟩
      have hI : GhInv W.heap.size (W.heap.size + 1 + 1) (w2.heap.size + 1) (W.heap.size + 1) gb (M : Int) [] F0 w4 := by
        refine ⟨_, [], fun _ => 0, fun b => by rw [hF0], hh4, ⟨Hw4.out.2.2.2.2, fun k hk => by simp at hk, fun k hk => by simp at hk⟩, fun hb => ?_, by omega⟩
        rcases hb with e | ⟨k, h1, _⟩
        · simp [Value.ownBlock] at e
        · simp at h1
      have hV4 : V2 (fun b => ¬ F0 b) w4 (.slice a t.length c) t := ((h.below hbA2).old.below hb24).mono (fun b h1 h2 hf => by have h1' : b < w2.heap.size := h1; have := hFb b hf; omega) (fun _ _ _ => rfl)
      have hC4 : V2 (fun b => ¬ F0 b) w4 (.slice a' cuts.length c') cuts := ((hc.below hbA2).old.below hb24).mono (fun b h1 h2 hf => by have h1' : b < w2.heap.size := h1; have := hFb b hf; omega) (fun _ _ _ => rfl)
      have hall := eachOutsider_any (.slice a t.length c) (.slice a' cuts.length c') Hp.out.2.1 Hp.out.2.2.1 w4 hvd hI hV4 hC4
      rw [← Hlk.out, gh_run gb M cuts locks (keysOf m) [] (Nat.zero_le _)] at hall
      refine hall.mono ?_
      rintro e' w5 ⟨F', ⟨lv, vs, bk, h1, h2, h3, h4, h5⟩, hchg, hsub, rfl⟩
      have hc5 := cell_of_block h2 0
      simp at hc5
      have Hfin := Lib.hid (And.intro h3.out.f2 hchg); clear h3 hchg hall hvd hI hx4 h1 h2 h4
      go_wp2_with fail
      go_ret2
      exact ⟨_, rfl, by have := Hfin.out.1; rwa [List.nil_append, List.length_nil, Nat.sub_zero] at this, hbA4.trans (Hfin.out.2.to_below (fun i hi => by have := hFb i hi; omega) hbA4.size)⟩
  · have hfin : listAns m t cuts most gb = ([], designC m t cuts) := by unfold listAns; rw [if_pos hp]
    have e1 : (designC m t cuts != 0) = true := by simp [hp]
    rw [hfin]
    have Hp := Lib.hid (And.intro hp hfin); clear hp hfin
    generalize designC m t cuts = pc at *
    go_enter Tryz.func45, Tryz.ntmps45
    go_wp2_with fail
    rw [← hWA]
    refine hcode.mono ?_
    rintro e' w2 ⟨rfl, hb2⟩
    have hbA2 := hbA.trans (hb2.mono hbA.size)
    have hx2 : ∀ o, w2.cell? ⟨W.heap.size, o, none⟩ = (#[.int .i64 m.c, .int .i64 m.d, .int .i64 m.s, .int .i64 m.e, .int .i64 m.l, .slice a t.length c] : Array Value)[o]? := fun o => cell_of_block (heap_below HA.out.1 hb2 (by omega)) o
    have hM2 : w2.cell? ⟨W.heap.size + 1, 0, none⟩ = some (.int .i64 most) := cell_of_block (heap_below HA.out.2.1 hb2 (by omega)) 0
    have hG2 : w2.cell? ⟨W.heap.size + 1 + 1, 0, none⟩ = some (.bool gb) := cell_of_block (heap_below HA.out.2.2 hb2 (by omega)) 0
    have hz2 : W.heap.size + 1 + 1 < w2.heap.size := by have := hb2.size; omega
    clear hx2 hM2 hG2
    go_wp2_with fail
    go_ret2
    exact ⟨_, rfl, F2.nil0, hbA2⟩
set_option maxRecDepth 100000 in
theorem SystemGhosts_any {S S' : Nat → Prop} (m : Mk) (u v : Value) (t cuts : List (List Int)) (most : Int) (W : World) (h : V2 S W u t) (hc : V2 S' W v cuts) :
    Calls Tryz.prog 29 #[.agg #[.int .i64 m.c, .int .i64 m.d, .int .i64 m.s, .int .i64 m.e, .int .i64 m.l, u], v, .int .i64 most] W fun e' w' => ∃ v', e' = .returned (.tuple #[v', .int .i64 (ghostsAns m t cuts most).2]) ∧ F2 W.heap.size w' v' (ghostsAns m t cuts most).1 ∧ Below W.heap.size W w' := by
  obtain ⟨a, c, rfl, hmx⟩ := h.form
  obtain ⟨a', c', rfl, hmx'⟩ := hc.form
  obtain ⟨W1, hW1, hB01, hz01, HZ01, hc01, hh01⟩ := box_facts W #[.int .i64 m.c, .int .i64 m.d, .int .i64 m.s, .int .i64 m.e, .int .i64 m.l, .slice a t.length c] 34
  have hall := firstOutsiders_any m _ _ t cuts most true W1 (h.below hB01) (hc.below hB01)
  unfold ghostsAns
  generalize listAns m t cuts most true = ans at *
  go_enter Tryz.func29, Tryz.ntmps29
  go_wp2_with fail
  rw [← hW1]
  refine hall.mono ?_
  rintro e' w2 ⟨v', rfl, hF, hb2⟩
  have HF := Lib.hid hF; clear hF
  clear hc01 hh01
  go_wp2_with fail
  go_ret2
  exact ⟨_, rfl, HF.out.mono hB01.size, hB01.trans (hb2.mono hB01.size)⟩
theorem SafeKeys_any {S S' : Nat → Prop} (m : Mk) (u v : Value) (t cuts : List (List Int)) (most : Int) (W : World) (h : V2 S W u t) (hc : V2 S' W v cuts) :
    Calls Tryz.prog 26 #[.agg #[.int .i64 m.c, .int .i64 m.d, .int .i64 m.s, .int .i64 m.e, .int .i64 m.l, u], v, .int .i64 most] W fun e' w' => ∃ v', e' = .returned (.tuple #[v', .int .i64 (safeAns m t cuts most).2]) ∧ F2 W.heap.size w' v' (safeAns m t cuts most).1 ∧ Below W.heap.size W w' := by
  obtain ⟨a, c, rfl, hmx⟩ := h.form
  obtain ⟨a', c', rfl, hmx'⟩ := hc.form
  obtain ⟨W1, hW1, hB01, hz01, HZ01, hc01, hh01⟩ := box_facts W #[.int .i64 m.c, .int .i64 m.d, .int .i64 m.s, .int .i64 m.e, .int .i64 m.l, .slice a t.length c] 34
  have hall := firstOutsiders_any m _ _ t cuts most false W1 (h.below hB01) (hc.below hB01)
  unfold safeAns
  generalize listAns m t cuts most false = ans at *
  go_enter Tryz.func26, Tryz.ntmps26
  go_wp2_with fail
  rw [← hW1]
  refine hall.mono ?_
  rintro e' w2 ⟨v', rfl, hF, hb2⟩
  have HF := Lib.hid hF; clear hF
  clear hc01 hh01
  go_wp2_with fail
  go_ret2
  exact ⟨_, rfl, HF.out.mono hB01.size, hB01.trans (hb2.mono hB01.size)⟩
end Go.Proofs.YtlfnadmbelngeaaGreat
