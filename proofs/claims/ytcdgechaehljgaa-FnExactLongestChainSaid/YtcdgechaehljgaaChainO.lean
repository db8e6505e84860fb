/- Sorting the numbers of the rows by the numbers of ones: the program's comparison and what the sort leaves. No conditions. -/
import Derived.Test.YtcdgechaehljgaaChainR
import Derived.Test.YtcdgechaehljgaaChainS
import Derived.Test.YtcdgechaehljgaaSort
import Derived.Test.YtcdgechaehljgaaClos
namespace Go.Proofs.Ytcdgechaehljgaa
open Go.RowKit
set_option linter.unusedVariables false
set_option linter.unusedSimpArgs false

set_option maxRecDepth 100000 in
theorem chainCmp_any {S : Nat → Prop} {t : List (List Int)} (T : Tab t) (v : Value) (x y b : Nat) (W : World) (h : V2 S W v t) (hx : x < t.length) (hy : y < t.length) (hc : W.cell? ⟨b, 0, none⟩ = some v) :
    Calls Try.prog 90 #[.int .i64 (x : Int), .int .i64 (y : Int), .pointer (some ⟨b, 0, none⟩)] W fun e' w' => e' = .returned (.int .i64 ((ones t x : Int) - (ones t y : Int))) ∧ ∃ n, w' = W.drewN n := by
  have hV := h
  obtain ⟨a, c, rfl, hmx⟩ := h.form
  obtain ⟨b1, off1, a1, c1, rfl, _, hc1, hr1⟩ := hV.cell hx
  obtain ⟨b2, off2, a2, c2, e2, _, hc2, hr2⟩ := hV.cell hy
  simp only [Option.some.injEq, Addr.mk.injEq, and_true] at e2
  obtain ⟨rfl, rfl⟩ := e2
  obtain ⟨hox, ex⟩ := ones_le T hx
  obtain ⟨hoy, ey⟩ := ones_le T hy
  have hlx := T.len x hx
  have hly := T.len y hy
  have hf := T.few
  have s1 : ∀ n, Calls Try.prog 91 #[.slice a1 (getl t x).length c1] (W.drewN n) fun e' w' => e' = .returned (.int .i64 (ones t x : Int)) ∧ ∃ q, w' = (W.drewN n).drewN q := fun n => by
    rw [ex]
    exact (sum_any (S := S) _ (getl t x) _ (V1.drewN hr1) (T.bits x hx) (by omega)).mono fun e' w' ⟨h1, h2⟩ => ⟨h1, 0, h2.symm⟩
  have s2 : ∀ n, Calls Try.prog 91 #[.slice a2 (getl t y).length c2] (W.drewN n) fun e' w' => e' = .returned (.int .i64 (ones t y : Int)) ∧ ∃ q, w' = (W.drewN n).drewN q := fun n => by
    rw [ey]
    exact (sum_any (S := S) _ (getl t y) _ (V1.drewN hr2) (T.bits y hy) (by omega)).mono fun e' w' ⟨h1, h2⟩ => ⟨h1, 0, h2.symm⟩
  obtain ⟨ox, hox'⟩ : ∃ o, ones t x = o := ⟨_, rfl⟩
  obtain ⟨oy, hoy'⟩ : ∃ o, ones t y = o := ⟨_, rfl⟩
  obtain ⟨lx, hlx'⟩ : ∃ o, (getl t x).length = o := ⟨_, rfl⟩
  obtain ⟨ly, hly'⟩ : ∃ o, (getl t y).length = o := ⟨_, rfl⟩
  rw [hox'] at s1 hox ⊢
  rw [hoy'] at s2 hoy ⊢
  rw [hlx'] at s1 hc1
  rw [hly'] at s2 hc2
  have hm1 := hr1.len
  have hm2 := hr2.len
  rw [hlx'] at hm1
  rw [hly'] at hm2
  unfold maxLen at hm1 hm2
  clear hox' hoy' hlx' hly' hr1 hr2
  have hw : wrap64 ((ox : Int) - (oy : Int)) = (ox : Int) - (oy : Int) := IntWalk.wrap64_in _ (by omega)
  have S1 := Lib.hid s1
  have S2 := Lib.hid s2
  clear s1 s2 ex ey hlx hly hf
  go_enter Try.func90, Try.ntmps90
  go_wp2_with fail
  go_quiet ((go_at_call 91; first | with_reducible exact quiet_at0 (S1.out _) | with_reducible exact quiet_at (S1.out _) | with_reducible exact quiet_at0 (S2.out _) | with_reducible exact quiet_at (S2.out _)))
  go_wp2_with fail
  go_ret
  exact ⟨rfl, _, by first | rfl | simp only [World.drewN_drewN]⟩
theorem enters_chain : Enters 90 := fun args w => by kernel_rfl

/-- The numbers below n as the sort handles them. -/
abbrev Idx (n : Nat) := { i : Nat // i < n }
def encIx {n : Nat} (x : Idx n) : Value := .int .i64 (x.1 : Int)
def cfIx (t : List (List Int)) (x y : Idx t.length) : Int := (ones t x.1 : Int) - (ones t y.1 : Int)
theorem swoIx (t : List (List Int)) : Go.Sort.SWO (ltOf (cfIx t)) where
  irrefl x := by simp [ltOf, cfIx]
  trans x y z h1 h2 := by
    unfold ltOf cfIx at h1 h2 ⊢
    have g1 := of_decide_eq_true h1
    have g2 := of_decide_eq_true h2
    generalize ones t x.1 = p1, ones t y.1 = p2, ones t z.1 = p3 at *
    exact decide_eq_true (by omega)
  ntrans x y z h1 h2 := by
    unfold ltOf cfIx at h1 h2 ⊢
    have g1 := of_decide_eq_false h1
    have g2 := of_decide_eq_false h2
    generalize ones t x.1 = p1, ones t y.1 = p2, ones t z.1 = p3 at *
    exact decide_eq_false (by omega)
theorem sortWorld_chg {α : Type} [Inhabited α] (enc : α → Value) (w : World) (g off n : Nat) (d : Array α) (os : Array Obj) : Chg (fun x => x = g) w (Go.Proofs.sortWorld enc w g off n d os) := by
  refine ⟨rfl, rfl, rfl, by simp [Go.Proofs.sortWorld], fun k hk hf => ?_⟩
  unfold Go.Proofs.sortWorld
  rw [Go.Sort.heap_grow_old _ _ (by simpa using hk)]
  simp [Go.Sort.putRow, Go.Sort.mapBlock, Array.getElem?_modify, show ¬ g = k from fun e => hf e.symm]

/-- ord: the numbers below n, each once, in the order of their ones. -/
structure Ord (t : List (List Int)) (ord : Nat → Nat) : Prop where
  lt : ∀ j, j < t.length → ord j < t.length
  onto : ∀ i, i < t.length → ∃ j, j < t.length ∧ ord j = i
  up : ∀ i j, i < j → j < t.length → ones t (ord i) ≤ ones t (ord j)

theorem order_any {S : Nat → Prop} {t : List (List Int)} (T : Tab t) (h0 : 0 < t.length) (hl : t.length ≤ 1048576) (v : Value) (b g c : Nat) (cs : Array Value) (e : TypeId) (W : World) (h : V2 S W v t) (hS : ∀ x, S x → x ≠ g) (hb : b ≠ g) (hbl : b < W.heap.size) (hc : W.cell? ⟨b, 0, none⟩ = some v)
    (hh : W.heap[g]? = some (.cells cs e (0, 0))) (hcs : ∀ k, k < t.length → cs[k]? = some (.int .i64 (k : Int))) :
    Calls Try.prog 89 #[.slice (some ⟨g, 0, none⟩) t.length c, .func (.func 90) #[] #[.pointer (some ⟨b, 0, none⟩)]] W fun e' w' => e' = .returned (.tuple #[]) ∧ ∃ ord, Ord t ord ∧ (∀ j, j < t.length → w'.cell? ⟨g, j, none⟩ = some (.int .i64 (ord j : Int))) ∧ Chg (fun x => x = g) W w' := by
  haveI : Inhabited (Idx t.length) := ⟨⟨0, h0⟩⟩
  let d : Array (Idx t.length) := Array.ofFn (fun i : Fin t.length => (⟨i.1, i.2⟩ : Idx t.length))
  have hd : d.size = t.length := by simp [d]
  have hdg : ∀ j (hj : j < t.length), d[j]! = ⟨j, hj⟩ := fun j hj => by
    rw [getElem!_pos d j (by omega)]; simp [d]
  have hgl := lt_of_heap hh
  have hH : Go.Sort.Holds encIx W g 0 d := fun j hj => by
    have hj' : j < t.length := by omega
    refine ⟨?_, frozen_of_block hh _⟩
    rw [cell_of_block hh, Nat.zero_add, hcs j hj', hdg j hj']
    rfl
  have hcmp : CmpLays1 Try.prog 90 #[.pointer (some ⟨b, 0, none⟩)] encIx (cfIx t) g 0 d.size W := by
    intro m os dk hs x y
    have hch := sortWorld_chg encIx W g 0 m dk os
    have hV := V2.mono h (S' := S) (fun _ h _ => h) (hch.keep (fun x hx he => hS x hx he))
    refine (chainCmp_any T v x.1 y.1 b _ hV x.2 y.2 (by rw [hch.cell hbl hb]; exact hc)).mono ?_
    rintro e' w' ⟨rfl, n, rfl⟩
    exact ⟨rfl, n, #[], by simp⟩
  have hcall := Try.slices_SortFunc encIx (fun _ => rfl) (cfIx t) (swoIx t) 90 #[.pointer (some ⟨b, 0, none⟩)] g 0 c d W (fun args w => enters_chain args w) hcmp hH hgl (by omega)
  rw [hd] at hcall
  refine hcall.mono ?_
  rintro e' w' ⟨rfl, d', n, os, hperm, hsort, rfl⟩
  obtain ⟨hsz, _, hp⟩ := hperm
  have hd' : d'.size = t.length := by omega
  have hp' : d'.toList.Perm d.toList := by
    have e1 : d'.extract 0 t.length = d' := Array.extract_eq_self_of_le (by omega)
    have e2 : d.extract 0 t.length = d := Array.extract_eq_self_of_le (by omega)
    rw [e1, e2] at hp; exact hp
  refine ⟨rfl, fun j => (d'[j]!).1, ⟨fun j hj => (d'[j]!).2, fun i hi => ?_, fun i j hij hj => ?_⟩, fun j hj => ?_, sortWorld_chg _ _ _ _ _ _ _⟩
  · have hm : (⟨i, hi⟩ : Idx t.length) ∈ d'.toList := hp'.mem_iff.2 (Array.mem_toList_iff.2 (Array.mem_iff_getElem.2 ⟨i, by omega, by simp [d]⟩))
    obtain ⟨j, hj, ej⟩ := List.getElem_of_mem hm
    have hj' : j < d'.size := by simpa using hj
    refine ⟨j, by omega, ?_⟩
    rw [getElem!_pos d' j hj']
    rw [Array.getElem_toList] at ej
    rw [ej]
  · have := hsort i j (Nat.zero_le _) hij hj
    unfold ltOf cfIx at this
    have g1 := of_decide_eq_false this
    show ones t (d'[i]!).1 ≤ ones t (d'[j]!).1
    generalize ones t (d'[i]!).1 = p1, ones t (d'[j]!).1 = p2 at *
    omega
  · have hk := Go.Sort.holds_putRow encIx (Go.Sort.ahead W n) g 0 d d' hH (by omega)
    have := (hk j (by omega)).1
    rw [Nat.zero_add] at this
    unfold Go.Proofs.sortWorld
    rw [Go.Sort.cell?_grow _ _ _ (by simpa using hgl)]
    exact this
end Go.Proofs.Ytcdgechaehljgaa
