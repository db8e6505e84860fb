/- The search of a refutation: a plain model. No program here. No conditions. -/
import Derived.Test.YtjkfgldmeenmjaaReadP
import Derived.Test.YtjkfgldmeenmjaaReadV
import Derived.Test.YtjkfgldmeenmjaaShift
namespace Go.Proofs.Ytjkfgldmeenmjaa
open Go.RowKit
set_option linter.unusedVariables false
set_option linter.unusedSimpArgs false

/-- The steps so far, and the code. -/
abbrev FSt := List (Int × Int) × Int
def firstStep (L : List (List Int)) : Int × Int := (geti (getl L 0) 0, geti (getl L 0) 1)
def rfStep (n : Nat) (t : List (List Int)) (rec : List (List Int) → List (Int × Int) → FSt) (cuts : List (List Int)) (s : FSt) (key : List Int) : FSt × Bool :=
  if s.1.length = 1200 then ((s.1, 3), false)
  else if 0 < (falseL n t (cuts ++ [key])).length then ((s.1 ++ [firstStep (falseL n t (cuts ++ [key]))], 0), true)
  else if cuts.length + 1 = t.length then ((s.1, 5), false)
  else (rec (cuts ++ [key]) (s.1 ++ [(-1, 0)]), decide ((rec (cuts ++ [key]) (s.1 ++ [(-1, 0)])).2 = 0))
def rfF (n : Nat) (t keys : List (List Int)) : Nat → List (List Int) → List (Int × Int) → FSt
  | 0 => fun _ l => (l, 0)
  | d + 1 => fun cuts l => (runL (rfStep n t (rfF n t keys d) cuts) (l, 0) keys).1
def RfOk (s : FSt) : Prop := s.1.length ≤ 1200 ∧ (s.2 = 0 ∨ s.2 = 3 ∨ s.2 = 5)
theorem rfStep_ok {n : Nat} {t : List (List Int)} {rec : List (List Int) → List (Int × Int) → FSt} (hr : ∀ c l, l.length ≤ 1200 → RfOk (rec c l)) {cuts : List (List Int)} {s : FSt} {key : List Int} (h : s.1.length ≤ 1200) :
    RfOk (rfStep n t rec cuts s key).1 ∧ (rfStep n t rec cuts s key).2 = decide ((rfStep n t rec cuts s key).1.2 = 0) := by
  unfold rfStep
  split
  · exact ⟨⟨h, .inr (.inl rfl)⟩, rfl⟩
  · split
    · exact ⟨⟨by show (s.1 ++ [_]).length ≤ _; rw [List.length_append]; simp only [List.length_cons, List.length_nil]; omega, .inl rfl⟩, rfl⟩
    · split
      · exact ⟨⟨h, .inr (.inr rfl)⟩, rfl⟩
      · exact ⟨hr _ _ (by rw [List.length_append]; simp only [List.length_cons, List.length_nil]; omega), rfl⟩
theorem runL_rf {n : Nat} {t : List (List Int)} {rec : List (List Int) → List (Int × Int) → FSt} (hr : ∀ c l, l.length ≤ 1200 → RfOk (rec c l)) {cuts : List (List Int)} : ∀ (keys : List (List Int)) (s : FSt), RfOk s → s.2 = 0 →
    RfOk (runL (rfStep n t rec cuts) s keys).1 ∧ (runL (rfStep n t rec cuts) s keys).2 = decide ((runL (rfStep n t rec cuts) s keys).1.2 = 0)
  | [], s, hs, h0 => ⟨hs, by show true = decide (s.2 = 0); rw [h0]; rfl⟩
  | k :: l, s, hs, h0 => by
    have h1 := rfStep_ok (n := n) (t := t) hr (cuts := cuts) (s := s) (key := k) hs.1
    unfold runL
    split
    · rename_i h2
      rw [h1.2, decide_eq_true_iff] at h2
      exact runL_rf hr l _ h1.1 h2
    · rename_i h2
      refine ⟨h1.1, ?_⟩
      rw [Bool.not_eq_true] at h2
      rw [← h1.2, h2]
theorem rfF_ok {n : Nat} {t keys : List (List Int)} : ∀ {d : Nat} {cuts : List (List Int)} {l : List (Int × Int)}, l.length ≤ 1200 → RfOk (rfF n t keys d cuts l)
  | 0, _, l, h => ⟨h, .inl rfl⟩
  | d + 1, cuts, l, h => (runL_rf (fun c l h => rfF_ok h) keys (l, 0) ⟨h, .inl rfl⟩ rfl).1
theorem rfF_flag {n : Nat} {t keys : List (List Int)} {d : Nat} {cuts : List (List Int)} {l : List (Int × Int)} (h : l.length ≤ 1200) :
    (runL (rfStep n t (rfF n t keys d) cuts) (l, 0) keys).2 = decide ((rfF n t keys (d + 1) cuts l).2 = 0) := (runL_rf (fun c l h => rfF_ok h) keys (l, 0) ⟨h, .inl rfl⟩ rfl).2
/-- All states that a run meets have code 0. -/
theorem rf_zero {n : Nat} {t : List (List Int)} {rec : List (List Int) → List (Int × Int) → FSt} (hr : ∀ c l, l.length ≤ 1200 → RfOk (rec c l)) {cuts : List (List Int)} {L1 : List (List Int)} {l : List (Int × Int)} {s : FSt} (hl : l.length ≤ 1200)
    (h : runL (rfStep n t rec cuts) (l, 0) L1 = (s, true)) : s.2 = 0 ∧ s.1.length ≤ 1200 := by
  have h1 := runL_rf (n := n) (t := t) hr (cuts := cuts) L1 (l, 0) ⟨hl, .inl rfl⟩ rfl
  rw [h] at h1
  exact ⟨by have h2 := h1.2; simpa using h2.symm, h1.1.1⟩
/-- What the program's list holds: a step more, where a design is found. -/
def rfL (s : FSt) : List (Int × Int) := if s.2 = 5 then s.1 ++ [(-1, 0)] else s.1
def refuteAns (m : Mk) (t : List (List Int)) : List (Int × Int) × Int :=
  if isSys m t = false then ([], 1) else if (rfF m.c.toNat t (keysOf m) t.length [] []).2 = 0 then ((rfF m.c.toNat t (keysOf m) t.length [] []).1, 0) else ([], (rfF m.c.toNat t (keysOf m) t.length [] []).2)
theorem refuteAns_len (m : Mk) (t : List (List Int)) : (refuteAns m t).1.length ≤ 1048576 := by
  unfold refuteAns
  split
  · simp
  · split
    · have := (rfF_ok (n := m.c.toNat) (t := t) (keys := keysOf m) (d := t.length) (cuts := []) (l := []) (by simp)).1
      show (rfF m.c.toNat t (keysOf m) t.length [] []).1.length ≤ _
      omega
    · simp
end Go.Proofs.Ytjkfgldmeenmjaa

namespace Go.Proofs.Ytjkfgldmeenmjaa
open Go.RowKit
set_option linter.unusedVariables false
set_option linter.unusedSimpArgs false

def RfF (PB KB NB : Nat) (gv : Value) (b : Nat) : Prop := b = PB ∨ b = KB ∨ b = NB ∨ gv.ownBlock = some b
structure Rf (PB KB NB B : Nat) (s : FSt) (gv : Value) (w : World) : Prop where
  hp : w.heap[PB]? = some (.cells #[gv] 47 (0, 0))
  hk : w.heap[KB]? = some (.cells #[.bool (decide (s.2 = 3))] 4 (0, 0))
  hn : w.heap[NB]? = some (.cells #[.bool (decide (s.2 = 5))] 4 (0, 0))
  own : w.ownsRow B 82 2 gv (rfL s).length (flatS (rfL s))
  ne : gv.ownBlock ≠ some PB ∧ gv.ownBlock ≠ some KB ∧ gv.ownBlock ≠ some NB
  ok : RfOk s
  lo : B ≤ w.heap.size
  df : PB ≠ KB ∧ PB ≠ NB ∧ KB ≠ NB
section
variable {gv : Value} {PB KB NB B : Nat} {s : FSt} {w w' : World}
theorem Rf.keep (h : Rf PB KB NB B s gv w) (hz : w.heap.size ≤ w'.heap.size) (hk : ∀ b, RfF PB KB NB gv b → w'.heap[b]? = w.heap[b]?) : Rf PB KB NB B s gv w' := by
  refine ⟨by rw [hk PB (.inl rfl)]; exact h.hp, by rw [hk KB (.inr (.inl rfl))]; exact h.hk, by rw [hk NB (.inr (.inr (.inl rfl)))]; exact h.hn, ⟨h.own.1, ?_⟩, h.ne, h.ok, Nat.le_trans h.lo hz, h.df⟩
  rcases h.own.2 with h0 | ⟨g, cap, cur, rfl, h1, h2, h3⟩
  · exact .inl h0
  · exact .inr ⟨g, cap, cur, rfl, h1, by rw [hk g (.inr (.inr (.inr rfl)))]; exact h2, h3⟩
theorem Rf.lt (h : Rf PB KB NB B s gv w) {b : Nat} (hb : RfF PB KB NB gv b) : b < w.heap.size := by
  rcases hb with rfl | rfl | rfl | hb
  · exact lt_of_heap h.hp
  · exact lt_of_heap h.hk
  · exact lt_of_heap h.hn
  · exact (h.own.lt _ hb).2
theorem Rf.below (h : Rf PB KB NB B s gv w) (hb : Below w.heap.size w w') : Rf PB KB NB B s gv w' := h.keep hb.size fun b hf => hb.block b (h.lt hf)
end
def RfPost (PB KB NB B : Nat) (gv : Value) (W : World) (s : FSt) (fl : Bool) (e : Ending) (w' : World) : Prop :=
  ∃ gv', e = .returned (.bool fl) ∧ Rf PB KB NB B s gv' w' ∧ Chg (RfF PB KB NB gv) W w' ∧ ∀ b, RfF PB KB NB gv' b → RfF PB KB NB gv b ∨ W.heap.size ≤ b
def tryV (SB PB KB NB TB : Nat) : Value := .func (.func 61) #[] #[.pointer (some ⟨SB, 0, none⟩), .pointer (some ⟨PB, 0, none⟩), .pointer (some ⟨KB, 0, none⟩), .pointer (some ⟨NB, 0, none⟩), .pointer (some ⟨TB, 0, none⟩)]
structure RfAsk (m : Mk) (t : List (List Int)) (tv : Value) (SB PB KB NB TB B : Nat) (cuts : List (List Int)) (cv : Value) (l : List (Int × Int)) (gv : Value) (W : World) : Prop where
  rf : Rf PB KB NB B (l, 0) gv W
  ht : V2 (fun b => ¬ RfF PB KB NB gv b) W tv t
  hc : V2 (fun b => ¬ RfF PB KB NB gv b) W cv cuts
  hp : cuts = [] → PV cv
  sb : ∀ o, W.cell? ⟨SB, o, none⟩ = (#[.int .i64 m.c, .int .i64 m.d, .int .i64 m.s, .int .i64 m.e, .int .i64 m.l, tv] : Array Value)[o]?
  sf : ¬ RfF PB KB NB gv SB ∧ SB < W.heap.size
  tb : W.cell? ⟨TB, 0, none⟩ = some (tryV SB PB KB NB TB)
  tf : ¬ RfF PB KB NB gv TB
  ok : PartOk m t cuts
  lt : cuts.length < t.length
def TryAny (m : Mk) (t : List (List Int)) (tv : Value) (SB PB KB NB TB B d n : Nat) : Prop :=
  ∀ (cuts : List (List Int)) (cv : Value) (l : List (Int × Int)) (gv : Value) (W : World), cuts.length + d = t.length → RfAsk m t tv SB PB KB NB TB B cuts cv l gv W →
    Calls Try.prog 61 #[cv, .pointer (some ⟨SB, 0, none⟩), .pointer (some ⟨PB, 0, none⟩), .pointer (some ⟨KB, 0, none⟩), .pointer (some ⟨NB, 0, none⟩), .pointer (some ⟨TB, 0, none⟩)] W
      (RfPost PB KB NB B gv W (rfF n t (keysOf m) d cuts l) (decide ((rfF n t (keysOf m) d cuts l).2 = 0)))
theorem own_some2 {w : World} {B z : Nat} {e : TypeId} {v : Value} {n : Nat} {xs : List Value} (h : w.ownsRow B e z v (n + 1) xs) : ∃ g cap, v = .slice (some ⟨g, 0, none⟩) (n + 1) cap ∧ g < w.heap.size := by
  rcases h.2 with ⟨_, h0⟩ | ⟨g, cap, cur, rfl, _, hh, _⟩
  · omega
  · exact ⟨g, cap, rfl, lt_of_heap hh⟩
/-- A step more. -/
theorem rf_push {gv : Value} {PB KB NB B gg cap n : Nat} {l : List (Int × Int)} {x : Int × Int} {wy w8 : World}
    (h : Rf PB KB NB B (l, 0) gv wy) (hn : l.length = n) (hl : l.length < 1200)
    (hown8 : w8.ownsRow B 82 2 (.slice (some ⟨gg, 0, none⟩) (n + 1) cap) (n + 1) (flatS l ++ [.int .i64 x.1, .int .i64 x.2])) {wa : World} (ha : Below wy.heap.size wy wa) (hg : wa.grownBy w8 gv.ownBlock) (hat : gv.ownBlock = some gg ∨ wy.heap.size ≤ gg) (hglt : gg < w8.heap.size) :
    Rf PB KB NB B (l ++ [x], 0) (.slice (some ⟨gg, 0, none⟩) (n + 1) cap) (w8.setCell ⟨PB, 0, none⟩ (.slice (some ⟨gg, 0, none⟩) (n + 1) cap)) ∧
    Chg (RfF PB KB NB gv) wy (w8.setCell ⟨PB, 0, none⟩ (.slice (some ⟨gg, 0, none⟩) (n + 1) cap)) ∧
    ∀ b, RfF PB KB NB (.slice (some ⟨gg, 0, none⟩) (n + 1) cap) b → RfF PB KB NB gv b ∨ wy.heap.size ≤ b := by
  subst hn
  have hPl := lt_of_heap h.hp
  have hKl := lt_of_heap h.hk
  have hNl := lt_of_heap h.hn
  have haz := ha.size
  have hgn : ∀ b, b < wy.heap.size → gv.ownBlock ≠ some b → gg ≠ b := fun b hb hne e => by
    rcases hat with h1 | h1
    · exact hne (e ▸ h1)
    · omega
  have h8 : ∀ b, b < wy.heap.size → gv.ownBlock ≠ some b → w8.heap[b]? = wy.heap[b]? := fun b hb hne => (hg.block b (by omega) (fun e => hne e.symm)).trans (ha.block b hb)
  obtain ⟨hd1, hd2, hd3⟩ := h.df
  refine ⟨⟨?_, ?_, ?_, ?_, ?_, ?_, ?_, h.df⟩, ?_, ?_⟩
  · rw [heap_setCell_self (by rw [h8 PB hPl h.ne.1]; exact h.hp)]; rfl
  · rw [heap_setCell_other _ (fun e => hd1 e.symm), h8 KB hKl h.ne.2.1]; exact h.hk
  · rw [heap_setCell_other _ (fun e => hd2 e.symm), h8 NB hNl h.ne.2.2]; exact h.hn
  · have e : rfL (l ++ [x], 0) = l ++ [x] := by unfold rfL; rw [if_neg (by show ¬ (0 : Int) = 5; decide)]
    rw [e]
    have h1 : w8.ownsRow B 82 2 (.slice (some ⟨gg, 0, none⟩) (l.length + 1) cap) (l ++ [x]).length (flatS (l ++ [x])) := by rw [flatS_snoc, List.length_append]; exact hown8
    exact own_chgz h1 ((Chg.refl (fun b => b = PB) _).setCell (p := ⟨PB, 0, none⟩) (.inl rfl) _) (fun g hg e => by
      simp only [Value.ownBlock, Option.some.injEq] at hg
      exact hgn PB hPl h.ne.1 (hg.trans e))
  · refine ⟨fun e => ?_, fun e => ?_, fun e => ?_⟩ <;> simp only [Value.ownBlock, Option.some.injEq] at e
    · exact hgn _ hPl h.ne.1 e
    · exact hgn _ hKl h.ne.2.1 e
    · exact hgn _ hNl h.ne.2.2 e
  · exact ⟨by show (l ++ [x]).length ≤ _; rw [List.length_append]; simp only [List.length_cons, List.length_nil]; omega, .inl rfl⟩
  · have := hg.size; simp only [World.size_setCell]; have := h.lo; omega
  · exact (((Chg.of_below ha).grown hg (fun k hk => .inl (.inr (.inr (.inr hk)))))).setCell (p := ⟨PB, 0, none⟩) (.inl (.inl rfl)) _
  · rintro b (h1 | h1 | h1 | h1)
    · exact .inl (.inl h1)
    · exact .inl (.inr (.inl h1))
    · exact .inl (.inr (.inr (.inl h1)))
    · simp only [Value.ownBlock, Option.some.injEq] at h1
      subst h1
      rcases hat with h2 | h2
      · exact .inl (.inr (.inr (.inr h2)))
      · exact .inr h2
theorem rf_found {gv : Value} {PB KB NB B : Nat} {l : List (Int × Int)} {w : World} (h : Rf PB KB NB B (l ++ [(-1, 0)], 0) gv w) : Rf PB KB NB B (l, 5) gv (w.setCell ⟨NB, 0, none⟩ (.bool true)) := by
  obtain ⟨hd1, hd2, hd3⟩ := h.df
  have h2 := h.ok.1
  refine ⟨by rw [heap_setCell_other _ hd2]; exact h.hp, by rw [heap_setCell_other _ hd3]; exact h.hk, by rw [heap_setCell_self h.hn]; rfl, ?_, h.ne, ⟨by have h3 : (l ++ [((-1 : Int), (0 : Int))]).length ≤ 1200 := h2; rw [List.length_append] at h3; show l.length ≤ 1200; omega, .inr (.inr rfl)⟩, by simpa using h.lo, h.df⟩
  exact own_chgz h.own ((Chg.refl (fun b => b = NB) _).setCell (p := ⟨NB, 0, none⟩) (.inl rfl) _) (fun g hg e => h.ne.2.2 (e ▸ hg))
theorem rf_still {gv : Value} {PB KB NB B : Nat} {l : List (Int × Int)} {w : World} (h : Rf PB KB NB B (l, 0) gv w) : Rf PB KB NB B (l, 0) gv (w.setCell ⟨NB, 0, none⟩ (.bool false)) := by
  obtain ⟨hd1, hd2, hd3⟩ := h.df
  refine ⟨by rw [heap_setCell_other _ hd2]; exact h.hp, by rw [heap_setCell_other _ hd3]; exact h.hk, by rw [heap_setCell_self h.hn]; rfl, ?_, h.ne, h.ok, by simpa using h.lo, h.df⟩
  exact own_chgz h.own ((Chg.refl (fun b => b = NB) _).setCell (p := ⟨NB, 0, none⟩) (.inl rfl) _) (fun g hg e => h.ne.2.2 (e ▸ hg))
set_option maxRecDepth 100000 in
set_option maxHeartbeats 2000000 in
theorem refv_any {S Far : Nat → Prop} (m : Mk) (t : List (List Int)) (n : Nat) (hn : (n : Int) = m.c) (tv cv kv gv : Value) (SB PB KB NB TB CB B d : Nat) (cuts : List (List Int)) (key : List Int) (l : List (Int × Int)) (w : World)
    (hp : PartOk m t cuts) (hl : cuts.length < t.length) (hcd : cuts.length + (d + 1) = t.length) (IH : TryAny m t tv SB PB KB NB TB B d n)
    (hR : Rf PB KB NB B (l, 0) gv w) (hfar : ∀ b, Far b → ¬ RfF PB KB NB gv b ∧ b < w.heap.size)
    (hsb : ∀ o, w.cell? ⟨SB, o, none⟩ = (#[.int .i64 m.c, .int .i64 m.d, .int .i64 m.s, .int .i64 m.e, .int .i64 m.l, tv] : Array Value)[o]?) (fs : Far SB) (htb : w.cell? ⟨TB, 0, none⟩ = some (tryV SB PB KB NB TB)) (ft : Far TB) (hcb : w.cell? ⟨CB, 0, none⟩ = some cv) (fc : Far CB)
    (ht : V2 Far w tv t) (hc : V2 Far w cv cuts) (hcp : cuts = [] → PV cv) (hk : V1 S w kv key) (hkey : isKeyB m key = true) :
    Calls Try.prog 63 #[kv, .pointer (some ⟨PB, 0, none⟩), .pointer (some ⟨KB, 0, none⟩), .pointer (some ⟨CB, 0, none⟩), .pointer (some ⟨SB, 0, none⟩), .pointer (some ⟨NB, 0, none⟩), .pointer (some ⟨TB, 0, none⟩)] w
      (RfPost PB KB NB B gv w (rfStep n t (rfF n t (keysOf m) d) cuts (l, 0) key).1 (rfStep n t (rfF n t (keysOf m) d) cuts (l, 0) key).2) := by
  obtain ⟨iS, hiS, hzS0, hzS1, hzS2⟩ := info_parts inf_step
  obtain ⟨ta, tc, rfl, htm⟩ := ht.form
  obtain ⟨ca, cc, rfl, hcm⟩ := hc.form
  obtain ⟨ka, kc, rfl, hkm⟩ := hk.form
  have hown := hR.own
  have eL : rfL (l, 0) = l := by unfold rfL; rw [if_neg (by show ¬ (0 : Int) = 5; decide)]
  rw [eL] at hown
  obtain ⟨ga, gc, rfl, hg1, hg2⟩ := own_formz hown
  have hll := hR.ok.1
  have hP : w.cell? ⟨PB, 0, none⟩ = some (.slice ga l.length gc) := by rw [cell_of_block hR.hp]; rfl
  have hK : w.cell? ⟨KB, 0, none⟩ = some (.bool false) := by rw [cell_of_block hR.hk]; rfl
  have fK := frozen_of_block hR.hk 0
  have HFar := Lib.hid hfar
  by_cases hA : l.length = 1200
  · have hres : rfStep n t (rfF n t (keysOf m) d) cuts (l, 0) key = ((l, 3), false) := by unfold rfStep; rw [if_pos hA]
    rw [hres]
    have e1 : ((l.length : Int) == 1200) = true := by rw [beq_iff_eq]; omega
    have H := Lib.hid (And.intro hR (And.intro hA hres)); clear hR hA hres ht hc hk IH hp hown hfar eL
    go_enter Try.func63, Try.ntmps63
    go_wp2_with fail
    go_ret
    have hRR := H.out.1
    obtain ⟨hd1, hd2, hd3⟩ := hRR.df
    refine ⟨_, rfl, ⟨by rw [heap_setCell_other _ hd1]; exact hRR.hp, by rw [heap_setCell_self hRR.hk]; rfl, by rw [heap_setCell_other _ (fun e => hd3 e.symm)]; exact hRR.hn, ?_, hRR.ne, ⟨hRR.ok.1, .inr (.inl rfl)⟩, by simpa using hRR.lo, hRR.df⟩, (Chg.refl _ _).setCell (p := ⟨KB, 0, none⟩) (.inl (.inr (.inl rfl))) _, fun b hb => .inl hb⟩
    exact own_chgz hRR.own ((Chg.refl (fun b => b = KB) _).setCell (p := ⟨KB, 0, none⟩) (.inl rfl) _) (fun g hg e => hRR.ne.2.1 (e ▸ hg))
  · have e1 : ((l.length : Int) == 1200) = false := by rw [beq_eq_false_iff_ne]; omega
    have hkl : key.length ≤ 1048576 := by
      have := (isKey_iff.1 hkey).1
      have := Mk.ok_iff.1 hp.fits.ok
      omega
    have hcl : cuts.length ≤ 1000000 := by have := hp.fits.rows; omega
    have hstep : rfStep n t (rfF n t (keysOf m) d) cuts (l, 0) key = if 0 < (falseL n t (cuts ++ [key])).length then ((l ++ [firstStep (falseL n t (cuts ++ [key]))], 0), true) else if cuts.length + 1 = t.length then ((l, 5), false) else (rfF n t (keysOf m) d (cuts ++ [key]) (l ++ [(-1, 0)]), decide ((rfF n t (keysOf m) d (cuts ++ [key]) (l ++ [(-1, 0)])).2 = 0)) := by unfold rfStep; rw [if_neg hA]
    have H := Lib.hid (And.intro hR (And.intro hA (And.intro ht (And.intro hc (And.intro hk (And.intro IH (And.intro hp (And.intro hown (And.intro eL hstep))))))))); clear hR hA ht IH hp hown eL hstep hfar
    go_enter Try.func63, Try.ntmps63
    go_wp2_with fail
    refine (slClone2_any _ cuts _ hc hcp hcl).mono ?_
    rintro e' w2 ⟨v2, vs2, rfl, hown2, hvs2, hb2⟩
    obtain ⟨a2, c2, rfl, h21, h22⟩ := own_form hown2
    go_wp2_with fail
    refine (slClone_any _ key _ (hk.below hb2) hkl).mono ?_
    rintro e' w3 ⟨v3, rfl, hF3, hb3⟩
    obtain ⟨a3, c3, rfl, _⟩ := hF3.v1.form
    have hz2 := hb2.size
    have hb03 := hb2.trans (hb3.mono hz2)
    have hz3 := hb03.size
    have hown3 : w3.ownsRow w.heap.size 29 1 (.slice a2 cuts.length c2) cuts.length vs2 := own_keep hown2 hb3
    have hvs3 := hvs2.below hb3
    go_wp2_with ((at_builtin; refine wp_app1 _ rfl _ _ 24 rfl w.heap.size 29 (.slice none 0 0) 24 Try.underlying24 inf_ints rfl _ _ _ rfl hown3 (.slice a3 key.length c3) _ rfl rfl (by omega) (by omega) (by omega) ?_; intro v1 w1 hown1 hgrow1 hblk1 hB1); have hx1 : ∀ o, w1.cell? ⟨SB, o, none⟩ = (#[.int .i64 m.c, .int .i64 m.d, .int .i64 m.s, .int .i64 m.e, .int .i64 m.l, .slice ta t.length tc] : Array Value)[o]? := (fun o => by rw [(bcell (hb03.trans (hB1.mono (by omega)))).1 _ _ (HFar.out SB fs).2, hsb]))
    have hb04 : Below w.heap.size w w1 := hb03.trans (hB1.mono (by omega))
    have hV3 : V1 (fun b => w2.heap.size ≤ b) w1 (.slice a3 key.length c3) key := hF3.v1.mono (fun _ h _ => h) (grow_keep hgrow1 (fun g hg hS => by have := (hown2.lt g hg).2; omega))
    have hvs1 : RowVs (fun b => Far b ∨ w.heap.size ≤ b) w1 vs2 cuts := ⟨hvs3.1, fun k hk => by obtain ⟨ev, g1, g2⟩ := hvs3.2 k hk; exact ⟨ev, g1, g2.mono (fun b hb _ => .inl hb) (fun b hb _ => hB1.block b (HFar.out b hb).2)⟩⟩
    have hM : V2 (fun b => (Far b ∨ w.heap.size ≤ b) ∨ w.heap.size ≤ b) w1 v1 (cuts ++ [key]) := own_V2S hown1 (hvs1.snoc (hV3.mono (fun b hb _ => .inr (Nat.le_trans hz2 hb)) (fun _ _ _ => rfl)))
    have hMlt : cuts.length + 1 = (cuts ++ [key]).length := by simp
    obtain ⟨ma, mc, rfl, hmm⟩ := hM.form
    rw [← hMlt] at hM ⊢
    have hpf := partFaults_any m (.slice ta t.length tc) (.slice ma (cuts.length + 1) mc) t (cuts ++ [key]) n w1 (H.out.2.2.2.2.2.2.1.more hl hkey).fits hn (H.out.2.2.1.below hb04) hM
    have hget := fun (hk : 0 < (falseL n t (cuts ++ [key])).length) => falseL_get hk
    have hst := H.out.2.2.2.2.2.2.2.2.2
    obtain ⟨LL, hLL⟩ : ∃ L, falseL n t (cuts ++ [key]) = L := ⟨_, rfl⟩
    rw [hLL] at hpf hget hst
    have HM := Lib.hid (And.intro hM (And.intro hb04 (And.intro hst hget))); clear hM hst hget hLL hV3 hvs1 hown1 hgrow1 hblk1 hB1 hown3 hown2 hvs3 hvs2 hF3 hb3 hb2 hc hk hMlt
    refine hpf.mono ?_
    rintro e' w5 ⟨v5, rfl, hF5, hb5⟩
    obtain ⟨a5, c5, rfl, hm5⟩ := hF5.v2.form
    have hb05 := hb04.trans (hb5.mono hb04.size)
    have hz5 := hb05.size
    have hz15 := hb5.size
    have hR5 := H.out.1.below hb05
    have hPl5 := lt_of_heap hR5.hp
    have hown5 := hR5.own
    rw [H.out.2.2.2.2.2.2.2.2.1] at hown5
    have hP5 : w5.cell? ⟨PB, 0, none⟩ = some (.slice ga l.length gc) := by rw [cell_of_block hR5.hp]; rfl
    have hneP := hR5.ne.1
    have hl12 : l.length < 1200 := by have := H.out.2.1; omega
    have Hb5 := Lib.hid hb5
    clear hb5 hb03
    by_cases hLp : 0 < LL.length
    · have hLi : (0 : Int) < (LL.length : Int) := by omega
      have hst := HM.out.2.2.1
      rw [if_pos hLp] at hst
      obtain ⟨fi, fd, _, _, hrow, _, _⟩ := HM.out.2.2.2 hLp
      obtain ⟨y, hy⟩ : ∃ y, firstStep LL = y := ⟨_, rfl⟩
      rw [hy] at hst
      have hy1 : y = ((fi : Int), (fd : Int)) := by rw [← hy]; unfold firstStep; rw [hrow]; rfl
      obtain ⟨b4, off4, a4, c4, rfl, hS4, hc4, hr4⟩ := hF5.v2.cell hLp
      rw [hrow] at hc4 hr4
      obtain ⟨b5, off5, rfl, hS5, hc5⟩ := hr4.cell (k := 0) (by simp)
      obtain ⟨b6, off6, e6, _, hc6⟩ := hr4.cell (k := 1) (by simp)
      obtain ⟨rfl, rfl⟩ : b5 = b6 ∧ off5 = off6 := by simpa using e6
      have hb4l := lt_of_cell hc4
      have hb5l := lt_of_cell hc5
      simp only [geti, List.getD_cons_zero, List.getD_cons_succ, List.length_cons, List.length_nil, Nat.add_zero, Nat.zero_add] at hc4 hc5 hc6 hb4l hb5l
      have hye1 : ((fi : Int)) = y.1 := by rw [hy1]
      have hye2 : ((fd : Int)) = y.2 := by rw [hy1]
      rw [hye1] at hc5
      rw [hye2] at hc6
      clear hye1 hye2 hy1 hy hrow
      have Hst := Lib.hid hst; clear hst
      have hgl : ∀ b, Value.ownBlock (.slice ga l.length gc) = some b → b < w.heap.size := fun b hb => H.out.1.lt (.inr (.inr (.inr hb)))
      have hz14 := hb04.size
      have hgb4 : Value.ownBlock (.slice ga l.length gc) ≠ some b4 := fun e => by have := hgl b4 e; omega
      have hgb5 : Value.ownBlock (.slice ga l.length gc) ≠ some b5 := fun e => by have := hgl b5 e; omega
      have hPlw := lt_of_heap H.out.1.hp
      have hb4P : b4 ≠ PB := fun e => by omega
      have hb5P : b5 ≠ PB := fun e => by omega
      have hP5a : ∀ o, (w5.alloc o).cell? ⟨PB, 0, none⟩ = some (.slice ga l.length gc) := fun o => cell_keep hP5 (Below.heap_alloc w5 o PB hPl5)
      have hS0 := And.intro hc4 (And.intro hc5 hc6)
      have hS1 := fun o => And.intro (cell_keep hc4 (Below.heap_alloc w5 o b4 hb4l)) (And.intro (cell_keep hc5 (Below.heap_alloc w5 o b5 hb5l)) (cell_keep hc6 (Below.heap_alloc w5 o b5 hb5l)))
      have hlo5 := hR5.lo
      clear hF5 hr4 e6 hgl
      dsimp only
      go_wp2_with fail
      refine wp_region_noPanic ?_
      refine wp_region_held_drew (S := fun w' => w'.cell? ⟨b4, off4, none⟩ = some (.slice (some ⟨b5, off5, none⟩) 2 c4) ∧ w'.cell? ⟨b5, off5, none⟩ = some (.int .i64 y.1) ∧ w'.cell? ⟨b5, off5 + 1, none⟩ = some (.int .i64 y.2)) (by kernel_rfl) hS0 (fun hHeld => ?_)
      (refine wpAnyH_take (i := 1) (v := .slice (some ⟨b4, off4, none⟩) LL.length c5) rfl (by kernel_rfl) (by kernel_rfl) (by kernel_rfl) (fun _ _ _ h => h) (Or.inl ⟨by kernel_rfl, fun w hSw => by (try dsimp only at hSw); go_split_ands; go_simp⟩) (by assumption) ?_; simp only [Act.put, List.setIfInBounds_toArray, List.set_cons_zero, List.set_cons_succ])
      (refine wpAnyH_take (i := 2) (v := .pointer (some ⟨b4, off4, none⟩)) rfl (by kernel_rfl) (by kernel_rfl) (by kernel_rfl) (fun _ _ _ h => h) (Or.inl ⟨by kernel_rfl, fun w hSw => by (try dsimp only at hSw); go_split_ands; go_simp⟩) (by assumption) ?_; simp only [Act.put, List.setIfInBounds_toArray, List.set_cons_zero, List.set_cons_succ])
      (refine wpAnyH_take (i := 3) (v := .slice (some ⟨b5, off5, none⟩) 2 c4) rfl (by kernel_rfl) (by kernel_rfl) (by kernel_rfl) (fun _ _ _ h => h) (Or.inl ⟨by kernel_rfl, fun w hSw => by (try dsimp only at hSw); go_split_ands; go_simp⟩) (by assumption) ?_; simp only [Act.put, List.setIfInBounds_toArray, List.set_cons_zero, List.set_cons_succ])
      (refine wpAnyH_take (i := 4) (v := .pointer (some ⟨b5, off5, none⟩)) rfl (by kernel_rfl) (by kernel_rfl) (by kernel_rfl) (fun _ _ _ h => h) (Or.inl ⟨by kernel_rfl, fun w hSw => by (try dsimp only at hSw); go_split_ands; go_simp⟩) (by assumption) ?_; simp only [Act.put, List.setIfInBounds_toArray, List.set_cons_zero, List.set_cons_succ])
      (refine wpAnyH_take (i := 5) (v := .int .i64 y.1) rfl (by kernel_rfl) (by kernel_rfl) (by kernel_rfl) (fun _ _ _ h => h) (Or.inl ⟨by kernel_rfl, fun w hSw => by (try dsimp only at hSw); go_split_ands; go_simp⟩) (by assumption) ?_; simp only [Act.put, List.setIfInBounds_toArray, List.set_cons_zero, List.set_cons_succ])
      (refine wpAnyH_take (i := 6) (v := .slice (some ⟨b4, off4, none⟩) LL.length c5) rfl (by kernel_rfl) (by kernel_rfl) (by kernel_rfl) (fun _ _ _ h => h) (Or.inl ⟨by kernel_rfl, fun w hSw => by (try dsimp only at hSw); go_split_ands; go_simp⟩) (by assumption) ?_; simp only [Act.put, List.setIfInBounds_toArray, List.set_cons_zero, List.set_cons_succ])
      (refine wpAnyH_take (i := 7) (v := .pointer (some ⟨b4, off4, none⟩)) rfl (by kernel_rfl) (by kernel_rfl) (by kernel_rfl) (fun _ _ _ h => h) (Or.inl ⟨by kernel_rfl, fun w hSw => by (try dsimp only at hSw); go_split_ands; go_simp⟩) (by assumption) ?_; simp only [Act.put, List.setIfInBounds_toArray, List.set_cons_zero, List.set_cons_succ])
      (refine wpAnyH_take (i := 8) (v := .slice (some ⟨b5, off5, none⟩) 2 c4) rfl (by kernel_rfl) (by kernel_rfl) (by kernel_rfl) (fun _ _ _ h => h) (Or.inl ⟨by kernel_rfl, fun w hSw => by (try dsimp only at hSw); go_split_ands; go_simp⟩) (by assumption) ?_; simp only [Act.put, List.setIfInBounds_toArray, List.set_cons_zero, List.set_cons_succ])
      (refine wpAnyH_take (i := 9) (v := .pointer (some ⟨b5, off5 + 1, none⟩)) rfl (by kernel_rfl) (by kernel_rfl) (by kernel_rfl) (fun _ _ _ h => h) (Or.inl ⟨by kernel_rfl, fun w hSw => by (try dsimp only at hSw); go_split_ands; go_simp⟩) (by assumption) ?_; simp only [Act.put, List.setIfInBounds_toArray, List.set_cons_zero, List.set_cons_succ])
      (refine wpAnyH_take (i := 10) (v := .int .i64 y.2) rfl (by kernel_rfl) (by kernel_rfl) (by kernel_rfl) (fun _ _ _ h => h) (Or.inl ⟨by kernel_rfl, fun w hSw => by (try dsimp only at hSw); go_split_ands; go_simp⟩) (by assumption) ?_; simp only [Act.put, List.setIfInBounds_toArray, List.set_cons_zero, List.set_cons_succ])
      (refine wpAnyH_take (i := 11) (v := .agg #[.int .i64 y.1, .int .i64 y.2]) rfl (by kernel_rfl) (by kernel_rfl) (by kernel_rfl) (fun _ _ _ h => h) (Or.inl ⟨by kernel_rfl, fun w hSw => by (try dsimp only at hSw); go_split_ands; go_simp⟩) (by assumption) ?_; simp only [Act.put, List.setIfInBounds_toArray, List.set_cons_zero, List.set_cons_succ])
      refine wpAnyH_ready (rs := [0, 12]) (by kernel_rfl) (by simp) (AllReadyH.cons rfl (fun K hK => ?_) (AllReadyH.cons rfl (fun K hK => ?_) AllReadyH.nil))
      · go_simp
        (refine hK.out _ _ hS0 (fun hHeld => ?_); clear hK K; (try simp only [Act.put, List.setIfInBounds_toArray, List.set_cons_zero, List.set_cons_succ]))
        (refine wpAnyH_ready (rs := [12]) (by kernel_rfl) (by simp) (AllReadyH.cons rfl (fun K hK => ?_) AllReadyH.nil); go_simp)
        (refine hK.out _ _ (hS1 _) (fun hHeld => ?_); clear hK K; (try simp only [Act.put, List.setIfInBounds_toArray, List.set_cons_zero, List.set_cons_succ]))
        refine wpAnyH_ready (rs := [13]) (by kernel_rfl) (by simp) (AllReadyH.cons rfl (fun K hK => ?_) AllReadyH.nil)
        refine step_append_lies _ (by rfl) _ _ _ (by rfl) B 82 iS _ 2 16 Try.underlying47 hiS hzS0 hzS1 hzS2 rfl (by omega) _ l.length _ (by rfl) (hown5.alloc _) ⟨_, 0, none⟩ 1 1 [.int .i64 y.1, .int .i64 y.2] (by rfl) (by rfl) (World.news_of_block (heap_alloc_new _ _)) (by simp [Value.oneCell']) (by omega) (by unfold maxLen; omega) (by omega) (by simp; omega) _ rfl ?_
        intro gg cap w8 hown8 hgrow8 hat8 hlt8
        have hh8 : w8.heap[PB]? = some (.cells #[.slice ga l.length gc] 47 (0, 0)) := by rw [hgrow8.block PB (by simp; omega) (fun e => hneP e.symm)]; exact (Below.heap_alloc w5 _ PB hPl5).trans hR5.hp
        have h88 : w8.cell? ⟨PB, 0, none⟩ = some (.slice ga l.length gc) := by rw [cell_of_block hh8]; rfl
        have h8f := frozen_of_block hh8 0
        have hS8 := And.intro (cell_keep (hS1 _).1 (hgrow8.block b4 (by simp; omega) (fun e => hgb4 e.symm))) (And.intro (cell_keep (hS1 _).2.1 (hgrow8.block b5 (by simp; omega) (fun e => hgb5 e.symm))) (cell_keep (hS1 _).2.2 (hgrow8.block b5 (by simp; omega) (fun e => hgb5 e.symm))))
        (refine hK.out _ _ hS8 (fun hHeld => ?_); clear hK K; (try simp only [Act.put, List.setIfInBounds_toArray, List.set_cons_zero, List.set_cons_succ]))
        (refine wpAnyH_ready (rs := [14]) (by kernel_rfl) (by simp) (AllReadyH.cons rfl (fun K hK => ?_) AllReadyH.nil); go_simp)
        have hS9 := And.intro (cell_keep hS8.1 (heap_setCell_other (b := PB) (off := 0) (.slice (some ⟨gg, 0, none⟩) (l.length + 1) cap) hb4P)) (And.intro (cell_keep hS8.2.1 (heap_setCell_other (b := PB) (off := 0) (.slice (some ⟨gg, 0, none⟩) (l.length + 1) cap) hb5P)) (cell_keep hS8.2.2 (heap_setCell_other (b := PB) (off := 0) (.slice (some ⟨gg, 0, none⟩) (l.length + 1) cap) hb5P)))
        (refine hK.out _ _ hS9 (fun hHeld => ?_); clear hK K; (try simp only [Act.put, List.setIfInBounds_toArray, List.set_cons_zero, List.set_cons_succ]))
        refine wpAnyH_done (by kernel_rfl) (NoPanic.normal ?_) _
        obtain ⟨hP1, hP2, hP3⟩ := rf_push (x := y) hR5 rfl (by omega) hown8 (((Below.refl _ w5).alloc (Nat.le_refl _) _).drew) hgrow8 (by rcases hat8 with h | h; exact .inl h; right; rw [h]; simp) hlt8
        have HP := Lib.hid (And.intro hP1 (And.intro ((Chg.of_below hb05).trans hP2 (fun i hi => .inl hi)) (fun b hb => by rcases hP3 b hb with h | h; exact .inl h; right; omega : ∀ b, RfF PB KB NB (.slice (some ⟨gg, 0, none⟩) (l.length + 1) cap) b → RfF PB KB NB (.slice ga l.length gc) b ∨ w.heap.size ≤ b)))
        clear hP1 hP2 hP3 hown8 hgrow8 hat8 hlt8 hh8 h88 h8f hS8 hS9 hS0 hS1 hown5
        go_wp2_with fail
        go_ret
        (try rw [Hst.out])
        exact ⟨_, rfl, HP.out.1, HP.out.2.1, HP.out.2.2⟩
      · go_simp
        (refine hK.out _ _ (hS1 _) (fun hHeld => ?_); clear hK K; (try simp only [Act.put, List.setIfInBounds_toArray, List.set_cons_zero, List.set_cons_succ]))
        (refine wpAnyH_ready (rs := [0]) (by kernel_rfl) (by simp) (AllReadyH.cons rfl (fun K hK => ?_) AllReadyH.nil); go_simp)
        (refine hK.out _ _ (hS1 _) (fun hHeld => ?_); clear hK K; (try simp only [Act.put, List.setIfInBounds_toArray, List.set_cons_zero, List.set_cons_succ]))
        refine wpAnyH_ready (rs := [13]) (by kernel_rfl) (by simp) (AllReadyH.cons rfl (fun K hK => ?_) AllReadyH.nil)
        refine step_append_lies _ (by rfl) _ _ _ (by rfl) B 82 iS _ 2 16 Try.underlying47 hiS hzS0 hzS1 hzS2 rfl (by omega) _ l.length _ (by rfl) (hown5.alloc _) ⟨_, 0, none⟩ 1 1 [.int .i64 y.1, .int .i64 y.2] (by rfl) (by rfl) (World.news_of_block (heap_alloc_new _ _)) (by simp [Value.oneCell']) (by omega) (by unfold maxLen; omega) (by omega) (by simp; omega) _ rfl ?_
        intro gg cap w8 hown8 hgrow8 hat8 hlt8
        have hh8 : w8.heap[PB]? = some (.cells #[.slice ga l.length gc] 47 (0, 0)) := by rw [hgrow8.block PB (by simp; omega) (fun e => hneP e.symm)]; exact (Below.heap_alloc w5 _ PB hPl5).trans hR5.hp
        have h88 : w8.cell? ⟨PB, 0, none⟩ = some (.slice ga l.length gc) := by rw [cell_of_block hh8]; rfl
        have h8f := frozen_of_block hh8 0
        have hS8 := And.intro (cell_keep (hS1 _).1 (hgrow8.block b4 (by simp; omega) (fun e => hgb4 e.symm))) (And.intro (cell_keep (hS1 _).2.1 (hgrow8.block b5 (by simp; omega) (fun e => hgb5 e.symm))) (cell_keep (hS1 _).2.2 (hgrow8.block b5 (by simp; omega) (fun e => hgb5 e.symm))))
        (refine hK.out _ _ hS8 (fun hHeld => ?_); clear hK K; (try simp only [Act.put, List.setIfInBounds_toArray, List.set_cons_zero, List.set_cons_succ]))
        (refine wpAnyH_ready (rs := [14]) (by kernel_rfl) (by simp) (AllReadyH.cons rfl (fun K hK => ?_) AllReadyH.nil); go_simp)
        have hS9 := And.intro (cell_keep hS8.1 (heap_setCell_other (b := PB) (off := 0) (.slice (some ⟨gg, 0, none⟩) (l.length + 1) cap) hb4P)) (And.intro (cell_keep hS8.2.1 (heap_setCell_other (b := PB) (off := 0) (.slice (some ⟨gg, 0, none⟩) (l.length + 1) cap) hb5P)) (cell_keep hS8.2.2 (heap_setCell_other (b := PB) (off := 0) (.slice (some ⟨gg, 0, none⟩) (l.length + 1) cap) hb5P)))
        (refine hK.out _ _ hS9 (fun hHeld => ?_); clear hK K; (try simp only [Act.put, List.setIfInBounds_toArray, List.set_cons_zero, List.set_cons_succ]))
        refine wpAnyH_done (by kernel_rfl) (NoPanic.normal ?_) _
        obtain ⟨hP1, hP2, hP3⟩ := rf_push (x := y) hR5 rfl (by omega) hown8 (((Below.refl _ w5).alloc (Nat.le_refl _) _).drew) hgrow8 (by rcases hat8 with h | h; exact .inl h; right; rw [h]; simp) hlt8
        have HP := Lib.hid (And.intro hP1 (And.intro ((Chg.of_below hb05).trans hP2 (fun i hi => .inl hi)) (fun b hb => by rcases hP3 b hb with h | h; exact .inl h; right; omega : ∀ b, RfF PB KB NB (.slice (some ⟨gg, 0, none⟩) (l.length + 1) cap) b → RfF PB KB NB (.slice ga l.length gc) b ∨ w.heap.size ≤ b)))
        clear hP1 hP2 hP3 hown8 hgrow8 hat8 hlt8 hh8 h88 h8f hS8 hS9 hS0 hS1 hown5
        go_wp2_with fail
        go_ret
        (try rw [Hst.out])
        exact ⟨_, rfl, HP.out.1, HP.out.2.1, HP.out.2.2⟩
    · have hLi : ¬ (0 : Int) < (LL.length : Int) := by omega
      have hst := HM.out.2.2.1
      rw [if_neg hLp] at hst
      have hN5 : w5.cell? ⟨NB, 0, none⟩ = some (.bool false) := by rw [cell_of_block hR5.hn]; rfl
      have hNl5 := lt_of_heap hR5.hn
      have hneN := hR5.ne.2.2
      obtain ⟨hd1, hd2, hd3⟩ := hR5.df
      have hS5 : w5.cell? ⟨SB, 5, none⟩ = some (.slice ta t.length tc) := by rw [(bcell hb05).1 _ _ (HFar.out SB fs).2, hsb]; rfl
      have hwl := H.out.1
      have hSP : ¬ SB = PB := fun e => (HFar.out SB fs).1 (.inl e)
      have hSN : ¬ SB = NB := fun e => (HFar.out SB fs).1 (.inr (.inr (.inl e)))
      have hTP : ¬ TB = PB := fun e => (HFar.out TB ft).1 (.inl e)
      have hTN : ¬ TB = NB := fun e => (HFar.out TB ft).1 (.inr (.inr (.inl e)))
      have hNP : ¬ NB = PB := fun e => hd2 e.symm
      have hPN : ¬ PB = NB := hd2
      have hgS : Value.ownBlock (.slice ga l.length gc) ≠ some SB := fun e => (HFar.out SB fs).1 (.inr (.inr (.inr e)))
      have hgT : Value.ownBlock (.slice ga l.length gc) ≠ some TB := fun e => (HFar.out TB ft).1 (.inr (.inr (.inr e)))
      have hSl := (HFar.out SB fs).2
      have hTl := (HFar.out TB ft).2
      have hT5 : w5.cell? ⟨TB, 0, none⟩ = some (.func (.func 61) #[] #[.pointer (some ⟨SB, 0, none⟩), .pointer (some ⟨PB, 0, none⟩), .pointer (some ⟨KB, 0, none⟩), .pointer (some ⟨NB, 0, none⟩), .pointer (some ⟨TB, 0, none⟩)]) := cell_keep htb (hb05.block _ hTl)
      have hlo5 := hR5.lo
      have hbA : Below w5.heap.size w5 (w5.alloc (.cells #[.int .i64 (-1), .int .i64 0] 82)) := (Below.refl _ _).alloc (Nat.le_refl _) _
      have hzA : (w5.alloc (.cells #[.int .i64 (-1), .int .i64 0] 82)).heap.size = w5.heap.size + 1 := by simp
      have HR5 := Lib.hid hR5; clear hR5 hF5
      have Hst0 := Lib.hid hst; clear hst
      by_cases hmo : cuts.length + 1 = t.length
      · have e2 : ((cuts.length : Int) + 1 == (t.length : Int)) = true := by rw [beq_iff_eq]; omega
        have hst := Hst0.out
        rw [if_pos hmo] at hst
        have Hst := Lib.hid hst; clear hst
        go_wp2_with (at_builtin; refine wp_app rfl _ _ 47 rfl B 82 (.agg #[.int .i64 0, .int .i64 0]) 2 16 Try.underlying47 inf_step rfl (by omega) _ _ _ rfl (hown5.alloc _) ⟨_, 0, none⟩ 1 1 [.int .i64 (-1), .int .i64 0] rfl rfl (World.news_of_block (heap_alloc_new _ _)) (by simp [Value.oneCell']) (by unfold maxLen; omega) (by omega) (by omega) ?_; intro v8 w8 hown8 hgrow8 hblk8; obtain ⟨gg, cap, rfl, hglt⟩ := own_some2 hown8; have h8P : w8.cell? ⟨PB, 0, none⟩ = some (.slice ga l.length gc) := (cell_keep hP5 ((hgrow8.block PB (by omega) (fun e => hneP e.symm)).trans (hbA.block PB hPl5))); have h8N : w8.cell? ⟨NB, 0, none⟩ = some (.bool false) := (cell_keep hN5 ((hgrow8.block NB (by omega) (fun e => hneN e.symm)).trans (hbA.block NB hNl5))); have h8S : w8.cell? ⟨SB, 5, none⟩ = some (.slice ta t.length tc) := (cell_keep hS5 ((hgrow8.block SB (by omega) (fun e => hgS e.symm)).trans (hbA.block SB (by omega)))); have h8T : w8.cell? ⟨TB, 0, none⟩ = some (.func (.func 61) #[] #[.pointer (some ⟨SB, 0, none⟩), .pointer (some ⟨PB, 0, none⟩), .pointer (some ⟨KB, 0, none⟩), .pointer (some ⟨NB, 0, none⟩), .pointer (some ⟨TB, 0, none⟩)]) := (cell_keep hT5 ((hgrow8.block TB (by omega) (fun e => hgT e.symm)).trans (hbA.block TB (by omega)))); have f8P : w8.frozen? ⟨PB, 0, none⟩ = false := (frozen_of_block ((hgrow8.block PB (by omega) (fun e => hneP e.symm)).trans ((hbA.block PB hPl5).trans HR5.out.hp)) 0); have f8N : w8.frozen? ⟨NB, 0, none⟩ = false := (frozen_of_block ((hgrow8.block NB (by omega) (fun e => hneN e.symm)).trans ((hbA.block NB hNl5).trans HR5.out.hn)) 0))
        obtain ⟨hP1, hP2, hP3⟩ := rf_push (x := (-1, 0)) HR5.out rfl hl12 hown8 hbA hgrow8 (by rcases hblk8 with h | h; exact .inl (h.symm.trans rfl); right; simp only [Value.ownBlock, Option.some.injEq] at h; omega) hglt
        have hQ1 := rf_found hP1
        have hQ2 := ((Chg.of_below hb05).trans hP2 (fun i hi => .inl hi)).setCell (p := ⟨NB, 0, none⟩) (.inl (.inr (.inr (.inl rfl)))) (.bool true)
        have HP := Lib.hid (And.intro hQ1 (And.intro hQ2 (fun b hb => by rcases hP3 b hb with h | h; exact .inl h; right; omega : ∀ b, RfF PB KB NB (.slice (some ⟨gg, 0, none⟩) (l.length + 1) cap) b → RfF PB KB NB (.slice ga l.length gc) b ∨ w.heap.size ≤ b)))
        go_ret
        (try rw [Hst.out])
        exact ⟨_, rfl, HP.out.1, HP.out.2.1, HP.out.2.2⟩
      · have e2 : ((cuts.length : Int) + 1 == (t.length : Int)) = false := by rw [beq_eq_false_iff_ne]; omega
        have hst := Hst0.out
        rw [if_neg hmo] at hst
        have Hst := Lib.hid hst; clear hst
        go_wp2_with (at_builtin; refine wp_app rfl _ _ 47 rfl B 82 (.agg #[.int .i64 0, .int .i64 0]) 2 16 Try.underlying47 inf_step rfl (by omega) _ _ _ rfl (hown5.alloc _) ⟨_, 0, none⟩ 1 1 [.int .i64 (-1), .int .i64 0] rfl rfl (World.news_of_block (heap_alloc_new _ _)) (by simp [Value.oneCell']) (by unfold maxLen; omega) (by omega) (by omega) ?_; intro v8 w8 hown8 hgrow8 hblk8; obtain ⟨gg, cap, rfl, hglt⟩ := own_some2 hown8; have h8P : w8.cell? ⟨PB, 0, none⟩ = some (.slice ga l.length gc) := (cell_keep hP5 ((hgrow8.block PB (by omega) (fun e => hneP e.symm)).trans (hbA.block PB hPl5))); have h8N : w8.cell? ⟨NB, 0, none⟩ = some (.bool false) := (cell_keep hN5 ((hgrow8.block NB (by omega) (fun e => hneN e.symm)).trans (hbA.block NB hNl5))); have h8S : w8.cell? ⟨SB, 5, none⟩ = some (.slice ta t.length tc) := (cell_keep hS5 ((hgrow8.block SB (by omega) (fun e => hgS e.symm)).trans (hbA.block SB (by omega)))); have h8T : w8.cell? ⟨TB, 0, none⟩ = some (.func (.func 61) #[] #[.pointer (some ⟨SB, 0, none⟩), .pointer (some ⟨PB, 0, none⟩), .pointer (some ⟨KB, 0, none⟩), .pointer (some ⟨NB, 0, none⟩), .pointer (some ⟨TB, 0, none⟩)]) := (cell_keep hT5 ((hgrow8.block TB (by omega) (fun e => hgT e.symm)).trans (hbA.block TB (by omega)))); have f8P : w8.frozen? ⟨PB, 0, none⟩ = false := (frozen_of_block ((hgrow8.block PB (by omega) (fun e => hneP e.symm)).trans ((hbA.block PB hPl5).trans HR5.out.hp)) 0); have f8N : w8.frozen? ⟨NB, 0, none⟩ = false := (frozen_of_block ((hgrow8.block NB (by omega) (fun e => hneN e.symm)).trans ((hbA.block NB hNl5).trans HR5.out.hn)) 0))
        obtain ⟨hP1, hP2, hP3⟩ := rf_push (x := (-1, 0)) HR5.out rfl hl12 hown8 hbA hgrow8 (by rcases hblk8 with h | h; exact .inl (h.symm.trans rfl); right; simp only [Value.ownBlock, Option.some.injEq] at h; omega) hglt
        obtain ⟨wz, hwz⟩ : ∃ wz, (w8.setCell ⟨PB, 0, none⟩ (.slice (some ⟨gg, 0, none⟩) (l.length + 1) cap)).setCell ⟨NB, 0, none⟩ (.bool false) = wz := ⟨_, rfl⟩
        have hQ1 := rf_still hP1
        have hQ2 := hP2.setCell (p := ⟨NB, 0, none⟩) (.inl (.inr (.inr (.inl rfl)))) (.bool false)
        rw [hwz] at hQ1 hQ2 ⊢
        have hCw : Chg (RfF PB KB NB (.slice ga l.length gc)) w wz := (Chg.of_below hb05).trans hQ2 (fun i hi => .inl hi)
        have hC1 : Chg (RfF PB KB NB (.slice ga l.length gc)) w1 wz := (Chg.of_below Hb5.out).trans hQ2 (fun i hi => .inl hi)
        have hfz : ∀ b, Far b → ¬ RfF PB KB NB (.slice (some ⟨gg, 0, none⟩) (l.length + 1) cap) b := fun b hb h => by
          rcases hP3 b h with h | h
          · exact (HFar.out b hb).1 h
          · have := (HFar.out b hb).2; omega
        have hkz : Keep Far w wz := hCw.keep fun b hb => (HFar.out b hb).1
        have hzw := hCw.size
        have IHr := H.out.2.2.2.2.2.1 (cuts ++ [key]) (.slice ma (cuts.length + 1) mc) (l ++ [(-1, 0)]) _ wz (by simp; omega)
          ⟨hQ1, H.out.2.2.1.mono (fun b hb _ => hfz b hb) hkz, HM.out.1.mono (fun b hb hlt hf => by
              rcases hP3 b hf with h | h
              · have h1 := H.out.1.lt h
                rcases hb with (hb | hb) | hb
                · exact (HFar.out b hb).1 h
                · omega
                · omega
              · omega) (hC1.keep fun b hb hf => by
              have h1 := H.out.1.lt hf
              rcases hb with (hb | hb) | hb
              · exact (HFar.out b hb).1 hf
              · omega
              · omega), fun e => by simp at e, fun o => by rw [hCw.cell hSl (HFar.out SB fs).1, hsb], ⟨hfz SB fs, by omega⟩, cell_keep htb (hkz TB ft hTl), hfz TB ft, H.out.2.2.2.2.2.2.1.more hl hkey, by simp; omega⟩
        have HI := Lib.hid (And.intro IHr (And.intro hCw hP3)); clear IHr hCw hC1 hfz hkz hP1 hP2 hP3 hQ1 hQ2 hwz
        refine HI.out.1.mono ?_
        rintro e' wq ⟨gv2, rfl, h1, h2, h3⟩
        have hF := And.intro h1 (And.intro (HI.out.2.1.trans h2 (fun i hi => by rcases HI.out.2.2 i hi with h | h; exact .inl h; right; omega)) (fun b hb => by
          rcases h3 b hb with h | h
          · rcases HI.out.2.2 b h with h | h
            · exact .inl h
            · right; omega
          · right; omega : ∀ b, RfF PB KB NB gv2 b → RfF PB KB NB (.slice ga l.length gc) b ∨ w.heap.size ≤ b))
        have HF := Lib.hid hF; clear hF h1 h2 h3
        go_wp2_with fail
        go_ret
        (try rw [Hst.out])
        exact ⟨gv2, rfl, HF.out.1, HF.out.2.1, HF.out.2.2⟩
end Go.Proofs.Ytjkfgldmeenmjaa

namespace Go.Proofs.Ytjkfgldmeenmjaa
open Go.RowKit
set_option linter.unusedVariables false
set_option linter.unusedSimpArgs false

def RtInv (PB KB NB B : Nat) (st : FSt) (F : Nat → Prop) (w : World) : Prop := ∃ gv, Rf PB KB NB B st gv w ∧ ∀ b, F b ↔ RfF PB KB NB gv b
theorem enters_rt : Enters 63 := fun args w => by kernel_rfl
theorem rt_ok (m : Mk) (t : List (List Int)) (n : Nat) (hn : (n : Int) = m.c) (tv cv gv0 : Value) (SB PB KB NB TB CB B d : Nat) (cuts : List (List Int)) (l0 : List (Int × Int)) (w0 : World)
    (hp : PartOk m t cuts) (hl : cuts.length < t.length) (hcd : cuts.length + (d + 1) = t.length) (IH : TryAny m t tv SB PB KB NB TB B d n) (hl0 : l0.length ≤ 1200)
    (hsb : ∀ o, w0.cell? ⟨SB, o, none⟩ = (#[.int .i64 m.c, .int .i64 m.d, .int .i64 m.s, .int .i64 m.e, .int .i64 m.l, tv] : Array Value)[o]?) (fs : ¬ RfF PB KB NB gv0 SB ∧ SB < w0.heap.size) (htb : w0.cell? ⟨TB, 0, none⟩ = some (tryV SB PB KB NB TB)) (ft : ¬ RfF PB KB NB gv0 TB) (hcb : w0.cell? ⟨CB, 0, none⟩ = some cv) (fc : ¬ RfF PB KB NB gv0 CB)
    (ht : V2 (fun b => ¬ RfF PB KB NB gv0 b ∧ b < w0.heap.size) w0 tv t) (hc : V2 (fun b => ¬ RfF PB KB NB gv0 b ∧ b < w0.heap.size) w0 cv cuts) (hcp : cuts = [] → PV cv) :
    VisOk m.c.toNat w0 (RfF PB KB NB gv0) 63 #[.pointer (some ⟨PB, 0, none⟩), .pointer (some ⟨KB, 0, none⟩), .pointer (some ⟨CB, 0, none⟩), .pointer (some ⟨SB, 0, none⟩), .pointer (some ⟨NB, 0, none⟩), .pointer (some ⟨TB, 0, none⟩)]
      (rfStep n t (rfF n t (keysOf m) d) cuts) (l0, 0) (genF m (fun _ _ => true) [] false m.c.toNat []) (RtInv PB KB NB B) := by
  refine ⟨enters_rt, ?_, ?_, ?_⟩
  · rintro s F w w' ⟨gv, h1, h2⟩ hz hk
    exact ⟨gv, h1.keep hz (fun b hb => hk b ((h2 b).2 hb)), h2⟩
  · rintro s F w ⟨gv, h1, h2⟩ b hb
    exact h1.lt ((h2 b).1 hb)
  · rintro ⟨l, c⟩ F S w v key done rest hL hr ⟨gv, hR, hFi⟩ hchg hsub hV hS hlen
    obtain ⟨hc0, hll⟩ := rf_zero (fun c l h => rfF_ok h) hl0 hr
    obtain rfl : c = 0 := hc0
    have hkey : isKeyB m key = true := by
      have hc0 : 0 ≤ m.c := by omega
      refine (mem_keysOf hc0).1 ?_
      have hk : key ∈ genF m (fun _ _ => true) [] false m.c.toNat [] := by rw [hL]; simp
      rw [genF_free] at hk
      exact hk
    have hfar : ∀ b, (¬ RfF PB KB NB gv0 b ∧ b < w0.heap.size) → ¬ RfF PB KB NB gv b ∧ b < w.heap.size := fun b hb => by
      refine ⟨fun h => ?_, by have := hchg.size; omega⟩
      rcases hsub b ((hFi b).2 h) with h1 | h1
      · exact hb.1 h1
      · omega
    have hkp : Keep (fun b => ¬ RfF PB KB NB gv0 b ∧ b < w0.heap.size) w0 w := hchg.keep fun b hb => hb.1
    refine (refv_any (Far := fun b => ¬ RfF PB KB NB gv0 b ∧ b < w0.heap.size) m t n hn tv cv v gv SB PB KB NB TB CB B d cuts key l w hp hl hcd IH hR hfar (fun o => by rw [hchg.cell fs.2 fs.1, hsb]) fs (cell_keep htb (hchg.block _ (lt_of_cell htb) ft)) ⟨ft, lt_of_cell htb⟩ (cell_keep hcb (hchg.block _ (lt_of_cell hcb) fc)) ⟨fc, lt_of_cell hcb⟩
      (ht.mono (fun _ h _ => h) hkp) (hc.mono (fun _ h _ => h) hkp) hcp hV hkey).mono ?_
    rintro e w' ⟨gv', rfl, h1, h3, h4⟩
    exact ⟨RfF PB KB NB gv', rfl, ⟨gv', h1, fun b => Iff.rfl⟩, h3.mono (fun b hb => (hFi b).2 hb), fun b hb => by
      rcases h4 b hb with h | h
      · exact .inl ((hFi b).2 h)
      · exact .inr h⟩

set_option maxRecDepth 100000 in
set_option maxHeartbeats 1000000 in
theorem try_any (m : Mk) (t : List (List Int)) (n : Nat) (hn : (n : Int) = m.c) (tv : Value) (SB PB KB NB TB B : Nat) : ∀ d, TryAny m t tv SB PB KB NB TB B d n := by
  intro d
  induction d with
  | zero => intro cuts cv l gv W hcd ask; have := ask.lt; omega
  | succ d ih =>
    intro cuts cv l gv W hcd ask
    obtain ⟨hR, ht, hc, hcp, hsb, hsf, htb, htf, hok, hlt⟩ := ask
    have hmk := hok.fits.ok
    obtain ⟨ta, tc, rfl, htm⟩ := ht.form
    obtain ⟨ca, cc, rfl, hcm⟩ := hc.form
    obtain ⟨WA, hWA⟩ : ∃ WA, WA = W.alloc (.cells #[.slice ca cuts.length cc] 24) := ⟨_, rfl⟩
    have hbA : Below W.heap.size W WA := by rw [hWA]; exact (Below.refl _ _).alloc (Nat.le_refl _) _
    have hzA : WA.heap.size = W.heap.size + 1 := by rw [hWA]; simp
    have hA0 : WA.heap[W.heap.size]? = some (.cells #[.slice ca cuts.length cc] 24 (0, 0)) := by rw [hWA]; exact heap_alloc_self _ _
    have hRA := hR.below hbA
    have hTl := lt_of_cell htb
    have hkA : Keep (fun b => ¬ RfF PB KB NB gv b) W WA := fun b _ hb => hbA.block b hb
    have htA := ht.mono (S' := fun b => ¬ RfF PB KB NB gv b ∧ b < WA.heap.size) (fun b h1 h2 => ⟨h1, by omega⟩) hkA
    have hcA := hc.mono (S' := fun b => ¬ RfF PB KB NB gv b ∧ b < WA.heap.size) (fun b h1 h2 => ⟨h1, by omega⟩) hkA
    have hV := rt_ok m t n hn (.slice ta t.length tc) (.slice ca cuts.length cc) gv SB PB KB NB TB W.heap.size B d cuts l WA hok hlt hcd ih hR.ok.1
      (fun o => by rw [(bcell hbA).1 _ _ hsf.2, hsb]) ⟨hsf.1, by omega⟩ (cell_keep htb (hbA.block _ hTl)) htf (by rw [cell_of_block hA0]; rfl) (fun h => by have := hR.lt h; omega) htA hcA hcp
    have hI : RtInv PB KB NB B (l, 0) (RfF PB KB NB gv) WA := ⟨gv, hRA, fun b => Iff.rfl⟩
    have hek := eachKey_any (A := fun _ _ => true) (av := .nilFunc) hmk WA hV (.inl ⟨rfl, fun _ _ => rfl⟩) hI
    have hkx : ∀ o1 k, (W.alloc o1).cell? ⟨SB, k, none⟩ = (#[.int .i64 m.c, .int .i64 m.d, .int .i64 m.s, .int .i64 m.e, .int .i64 m.l, .slice ta t.length tc] : Array Value)[k]? := fun o1 k => by
      rw [(bcell (show Below W.heap.size W (W.alloc o1) from (Below.refl _ _).alloc (Nat.le_refl _) _)).1 _ _ hsf.2, hsb]
    rw [genF_free] at hek
    have hgen : gen m m.c.toNat [] = keysOf m := rfl
    rw [hgen] at hek
    have hres : rfF n t (keysOf m) (d + 1) cuts l = (runL (rfStep n t (rfF n t (keysOf m) d) cuts) (l, 0) (keysOf m)).1 := rfl
    have hrok := rfF_ok (n := n) (t := t) (keys := keysOf m) (d := d + 1) (cuts := cuts) (l := l) hR.ok.1
    obtain ⟨r, hr⟩ : ∃ r, rfF n t (keysOf m) (d + 1) cuts l = r := ⟨_, rfl⟩
    rw [← hres, hr] at hek
    rw [hr] at hrok ⊢
    obtain ⟨rl, rc⟩ := r
    have Hek := Lib.hid (And.intro hek (And.intro hR (And.intro hbA (And.intro hzA hWA)))); clear hek hV hI hR hRA hbA hA0 hr hres ih ht hc htA hcA hkA hok hcp hWA hgen
    clear hzA
    obtain ⟨b3, hb3⟩ : ∃ b, decide (rc = 3) = b := ⟨_, rfl⟩
    obtain ⟨b5, hb5⟩ : ∃ b, decide (rc = 5) = b := ⟨_, rfl⟩
    have hb0 : decide (rc = 0) = (!b3 && !b5) := by
      rw [← hb3, ← hb5]
      rcases hrok.2 with h0 | h0 | h0 <;> (have h0' : rc = _ := h0; rw [h0']; rfl)
    show Calls _ _ _ _ (RfPost PB KB NB B gv W (rl, rc) (decide (rc = 0)))
    rw [hb0]
    have Hb := Lib.hid (And.intro hb3 (And.intro hb5 hrok)); clear hb3 hb5 hb0 hrok
    go_enter Try.func61, Try.ntmps61
    go_wp2_with fail
    rw [← Hek.out.2.2.2.2]
    refine Hek.out.1.mono ?_
    rintro e' w' ⟨F', ⟨gv', h1, h2⟩, hch, hsub, rfl⟩
    have hzA := Hek.out.2.2.2.1
    have hzw := hch.size
    have cK : w'.cell? ⟨KB, 0, none⟩ = some (.bool b3) := by rw [cell_of_block h1.hk]; show some (Value.bool (decide (rc = 3))) = _; rw [Hb.out.1]
    have cN : w'.cell? ⟨NB, 0, none⟩ = some (.bool b5) := by rw [cell_of_block h1.hn]; show some (Value.bool (decide (rc = 5))) = _; rw [Hb.out.2.1]
    have hchW : Chg (RfF PB KB NB gv) W w' := (Chg.of_below Hek.out.2.2.1).trans hch (fun i hi => .inl hi)
    have hsW : ∀ b, RfF PB KB NB gv' b → RfF PB KB NB gv b ∨ W.heap.size ≤ b := fun b hb => by
      rcases hsub b ((h2 b).2 hb) with h | h
      · exact .inl h
      · right; omega
    have HF := Lib.hid (And.intro h1 (And.intro hchW hsW)); clear h1 h2 hch hsub hchW hsW
    cases b3 <;> cases b5
    all_goals
      go_wp2_with fail
      go_ret
      exact ⟨gv', rfl, HF.out.1, HF.out.2.1, HF.out.2.2⟩
def refW (w2 : World) (SB : Nat) : World :=
  ((((w2.alloc (.cells #[] 82)).alloc (.cells #[.slice (some ⟨w2.heap.size, 0, none⟩) 0 0] 47)).alloc (.cells #[.bool false] 4)).alloc (.cells #[.bool false] 4)).alloc
    (.cells #[tryV SB (w2.heap.size + 1) (w2.heap.size + 1 + 1) (w2.heap.size + 1 + 1 + 1) (w2.heap.size + 1 + 1 + 1 + 1)] 78)
theorem ref_ask {S : Nat → Prop} {m : Mk} {t : List (List Int)} (hy : isSys m t = true) {tv : Value} {w2 : World} {SB : Nat} (hV : V2 S w2 tv t) (hsb : ∀ o, w2.cell? ⟨SB, o, none⟩ = (#[.int .i64 m.c, .int .i64 m.d, .int .i64 m.s, .int .i64 m.e, .int .i64 m.l, tv] : Array Value)[o]?) (hSl : SB < w2.heap.size) :
    RfAsk m t tv SB (w2.heap.size + 1) (w2.heap.size + 1 + 1) (w2.heap.size + 1 + 1 + 1) (w2.heap.size + 1 + 1 + 1 + 1) w2.heap.size [] (.slice none 0 0) [] (.slice (some ⟨w2.heap.size, 0, none⟩) 0 0) (refW w2 SB) ∧ Below w2.heap.size w2 (refW w2 SB) := by
  have hok := PartOk.nil hy
  have hrows := hok.fits.rows
  obtain ⟨WA, hWA⟩ : ∃ WA, WA = refW w2 SB := ⟨_, rfl⟩
  have hb : Below w2.heap.size w2 WA := by
    rw [hWA]; unfold refW
    repeat (first | exact Below.refl _ _ | refine Below.alloc ?_ (by simp; try omega) _)
  have hz : WA.heap.size = w2.heap.size + 5 := by rw [hWA]; simp [refW]
  have h0 : WA.heap[w2.heap.size]? = some (.cells #[] 82 (0, 0)) := by rw [hWA]; unfold refW; simp only [heap_alloc_at, World.size_alloc]; (repeat rw [if_neg (by omega)]); simp
  have h1 : WA.heap[w2.heap.size + 1]? = some (.cells #[.slice (some ⟨w2.heap.size, 0, none⟩) 0 0] 47 (0, 0)) := by rw [hWA]; unfold refW; simp only [heap_alloc_at, World.size_alloc]; (repeat rw [if_neg (by omega)]); simp
  have h2 : WA.heap[w2.heap.size + 1 + 1]? = some (.cells #[.bool false] 4 (0, 0)) := by rw [hWA]; unfold refW; simp only [heap_alloc_at, World.size_alloc]; (repeat rw [if_neg (by omega)]); simp
  have h3 : WA.heap[w2.heap.size + 1 + 1 + 1]? = some (.cells #[.bool false] 4 (0, 0)) := by rw [hWA]; unfold refW; simp only [heap_alloc_at, World.size_alloc]; (repeat rw [if_neg (by omega)]); simp
  have h4 : WA.heap[w2.heap.size + 1 + 1 + 1 + 1]? = some (.cells #[tryV SB (w2.heap.size + 1) (w2.heap.size + 1 + 1) (w2.heap.size + 1 + 1 + 1) (w2.heap.size + 1 + 1 + 1 + 1)] 78 (0, 0)) := by rw [hWA]; unfold refW; simp only [heap_alloc_at, World.size_alloc]; (repeat rw [if_neg (by omega)]); simp
  rw [← hWA]
  have hno : ∀ b, b < w2.heap.size → ¬ RfF (w2.heap.size + 1) (w2.heap.size + 1 + 1) (w2.heap.size + 1 + 1 + 1) (.slice (some ⟨w2.heap.size, 0, none⟩) 0 0) b := fun b hb h => by
    rcases h with h | h | h | h
    · omega
    · omega
    · omega
    · simp only [Value.ownBlock, Option.some.injEq] at h; omega
  refine ⟨⟨⟨h1, h2, h3, ⟨rfl, .inr ⟨w2.heap.size, 0, #[], rfl, Nat.le_refl _, h0, Nat.le_refl _, Nat.zero_le _, rfl, rfl⟩⟩, ?_, ⟨Nat.zero_le _, .inl rfl⟩, by omega, by omega⟩, hV.any.mono (fun b _ hb' => hno b hb') (fun b _ hb' => hb.block b hb'), ⟨none, 0, rfl, Nat.le_refl _, Nat.zero_le _, fun k hk => by simp at hk⟩, fun _ => .inl rfl, fun o => by rw [(bcell hb).1 _ _ hSl, hsb], ⟨hno SB hSl, by omega⟩, by rw [cell_of_block h4]; rfl, ?_, hok, by simp; omega⟩, hb⟩
  · refine ⟨fun e => ?_, fun e => ?_, fun e => ?_⟩ <;> simp only [Value.ownBlock, Option.some.injEq] at e <;> omega
  · intro h
    rcases h with h | h | h | h
    · omega
    · omega
    · omega
    · simp only [Value.ownBlock, Option.some.injEq] at h; omega
theorem refAnsC {m : Mk} {t : List (List Int)} (hy : isSys m t = true) : refuteAns m t = if (rfF m.c.toNat t (keysOf m) t.length [] []).2 = 0 then ((rfF m.c.toNat t (keysOf m) t.length [] []).1, 0) else ([], (rfF m.c.toNat t (keysOf m) t.length [] []).2) := by unfold refuteAns; rw [if_neg (by rw [hy]; decide)]
set_option maxRecDepth 100000 in
set_option maxHeartbeats 1000000 in
theorem Refute_any {S : Nat → Prop} (m : Mk) (u : Value) (t : List (List Int)) (W : World) (h : V2 S W u t) :
    Calls Try.prog 28 #[.agg #[.int .i64 m.c, .int .i64 m.d, .int .i64 m.s, .int .i64 m.e, .int .i64 m.l, u]] W fun e' w' => ∃ v', e' = .returned (.tuple #[v', .int .i64 (refuteAns m t).2]) ∧ FS W.heap.size w' v' (refuteAns m t).1 ∧ Below W.heap.size W w' := by
  obtain ⟨a, c, rfl, hmx⟩ := h.form
  obtain ⟨W1, hW1, hB01, hz01, HZ01, hc01, hh01⟩ := box_facts W #[.int .i64 m.c, .int .i64 m.d, .int .i64 m.s, .int .i64 m.e, .int .i64 m.l, .slice a t.length c] 34
  have hV1 : V2 (fun b => b < W1.heap.size) W1 (.slice a t.length c) t := (h.below hB01).mono (fun _ _ h => h) (fun _ _ _ => rfl)
  cases hy : isSys m t
  · have hfin : refuteAns m t = ([], 1) := by unfold refuteAns; rw [if_pos hy]
    rw [hfin]
    have H := Lib.hid (And.intro hy hfin); clear hy hfin
    go_enter Try.func28, Try.ntmps28
    go_wp2_with fail
    rw [← hW1]
    refine (isSystem_b m _ t _ _ H.out.1 hV1).mono ?_
    rintro e' w2 ⟨rfl, hb2⟩
    clear hc01 hh01
    go_wp2_with fail
    go_ret2
    exact ⟨_, rfl, FS.nil, hB01.trans (hb2.mono (by omega))⟩
  · have hok := PartOk.nil hy
    have hmk := Mk.ok_iff.1 hok.fits.ok
    have hrows := hok.fits.rows
    have hra := refAnsC hy
    have hfok := rfF_ok (n := m.c.toNat) (t := t) (keys := keysOf m) (d := t.length) (cuts := []) (l := []) (by simp)
    have hcall := fun (w : World) (gv : Value) (SB PB KB NB TB B : Nat) (ask : RfAsk m t (.slice a t.length c) SB PB KB NB TB B [] (.slice none 0 0) [] gv w) => try_any m t m.c.toNat (by omega) (.slice a t.length c) SB PB KB NB TB B t.length [] (.slice none 0 0) [] gv w (by simp) ask
    obtain ⟨r, hr⟩ : ∃ r, rfF m.c.toNat t (keysOf m) t.length [] [] = r := ⟨_, rfl⟩
    rw [hr] at hra hfok
    simp only [hr] at hcall
    obtain ⟨rl, rc⟩ := r
    obtain ⟨ans, hans⟩ : ∃ r, refuteAns m t = r := ⟨_, rfl⟩
    rw [hans] at hra ⊢
    have H := Lib.hid (And.intro hy (And.intro hcall (And.intro hok (And.intro hr hans)))); clear hy hcall hr hans
    have hwl : 1 ≤ t.length := hrows.1
    clear hrows hmk hok
    rcases hfok.2 with h0 | h0 | h0
    all_goals
      have h0' : rc = _ := h0
      clear h0
      subst h0'
      first | rw [if_pos rfl] at hra | rw [if_neg (by show ¬ (3 : Int) = 0; decide)] at hra | rw [if_neg (by show ¬ (5 : Int) = 0; decide)] at hra
      subst hra
      go_enter Try.func28, Try.ntmps28
      go_wp2_with fail
      rw [← hW1]
      refine (isSystem_b m _ t _ _ H.out.1 hV1).mono ?_
      rintro e' w2 ⟨rfl, hb2⟩
      have hz2 := hb2.size
      have hx2 : ∀ o, w2.cell? ⟨W.heap.size, o, none⟩ = (#[.int .i64 m.c, .int .i64 m.d, .int .i64 m.s, .int .i64 m.e, .int .i64 m.l, .slice a t.length c] : Array Value)[o]? := fun o => by rw [(bcell hb2).1 _ _ hz01, hc01]
      have HW1 := Lib.hid hW1; clear hW1 hh01
      have hask := ref_ask H.out.1 (hV1.below hb2) hx2 (show W.heap.size < w2.heap.size by omega)
      have Hask := Lib.hid hask; clear hask
      go_wp2_with fail
      refine (H.out.2.1 (refW w2 W.heap.size) _ _ _ _ _ _ _ Hask.out.1).mono ?_
      rintro e' w3 ⟨gv, rfl, hR, hch, hsub⟩
      have hb3 : Below W.heap.size W w3 := hB01.trans (((hb2.trans (Hask.out.2.mono hz2)).mono (by omega)).trans (hch.to_below (B := W.heap.size) (fun i hi => by
        have h1 := Hask.out.1.rf.lt hi
        rcases hi with hi | hi | hi | hi
        · omega
        · omega
        · omega
        · simp only [Value.ownBlock, Option.some.injEq] at hi; omega) (by have := Hask.out.2.size; omega)))
      have cP : w3.cell? ⟨w2.heap.size + 1, 0, none⟩ = some gv := by rw [cell_of_block hR.hp]; rfl
      have cK := cell_of_block hR.hk 0
      have cN := cell_of_block hR.hn 0
      simp only [List.getElem?_toArray, List.getElem?_cons_zero] at cK cN
      have hFS := (own_FS hR.own).mono (B' := W.heap.size) (by omega)
      obtain ⟨ga, gc, rfl, _, _⟩ := own_formz hR.own
      have HF := Lib.hid (And.intro hb3 hFS); clear hb3 hFS hR hch hsub hx2
      go_wp2_with fail
      go_ret2
      first | exact ⟨_, rfl, FS.nil, HF.out.1⟩ | exact ⟨_, rfl, HF.out.2, HF.out.1⟩
end Go.Proofs.Ytjkfgldmeenmjaa
