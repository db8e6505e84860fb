/- make of a slice at a step of a region that draws its order. No conditions. -/
import Derived.Test.YtmfgdoflddhngaaGreatMLib
import Derived.Test.YtmfgdoflddhngaaGreatMRefFirst
namespace Go.Proofs.YtmfgdoflddhngaaGreat
open Go.RowKit
set_option linter.unusedVariables false
set_option linter.unusedSimpArgs false

end Go.Proofs.YtmfgdoflddhngaaGreat

namespace Go.Proofs.YtmfgdoflddhngaaGreat
open Go.RowKit
set_option linter.unusedVariables false
set_option linter.unusedSimpArgs false

def allStep (s : List (List Int)) (k : List Int) : List (List Int) × Bool := (s ++ [k], true)
theorem all_run : ∀ (l s0 : List (List Int)), runL allStep s0 l = (s0 ++ l, true)
  | [], s0 => by simp [runL]
  | k :: l, s0 => by
    show (if (allStep s0 k).2 then runL allStep (allStep s0 k).1 l else allStep s0 k) = _
    simp only [allStep, if_true]
    rw [all_run l]
    simp
theorem enters_open : Enters 145 := fun args w => by kernel_rfl
set_option maxRecDepth 100000 in
set_option maxHeartbeats 1000000 in
theorem open1_any {S S' : Nat → Prop} (kv lv : Value) (key l : List Int) (locks : List (List (List Int))) (G OB LB : Nat) (w : World) (hk : V1 S w kv key) (hb : BlkI w G l) (hnd : ndoors locks key < l.length) (hl : l.length ≤ 1000) (hx : 0 ≤ geti l (ndoors locks key) ∧ geti l (ndoors locks key) ≤ 1000000)
    (hOB : w.cell? ⟨OB, 0, none⟩ = some (.slice (some ⟨G, 0, none⟩) l.length l.length)) (hLB : w.cell? ⟨LB, 0, none⟩ = some lv) (hlv : V3 S' w lv locks) (hll : locks.length ≤ 1000) (hlen : ∀ k, k < locks.length → key.length ≤ (getll locks k).length) :
    Calls Tryz.prog 145 #[kv, .pointer (some ⟨OB, 0, none⟩), .pointer (some ⟨LB, 0, none⟩)] w fun e w' => e = .returned (.bool true) ∧ ∃ wq, Below w.heap.size w wq ∧ w' = wq.setCell ⟨G, ndoors locks key, none⟩ (.int .i64 (geti l (ndoors locks key) + 1)) := by
  obtain ⟨ka, kc, rfl, hkm⟩ := hk.form
  obtain ⟨la, lc, rfl, hlm⟩ := hlv.form
  have hg := hb.cell hnd
  have hdr : Below w.heap.size w w.drew := (Below.refl _ _).drew
  obtain ⟨p, hp⟩ : ∃ p, ndoors locks key = p := ⟨_, rfl⟩
  rw [hp] at hg hx hnd ⊢
  obtain ⟨x, hxe⟩ : ∃ x, geti l p = x := ⟨_, rfl⟩
  rw [hxe] at hg hx ⊢
  have hpn : (0 : Int) ≤ (p : Int) := by omega
  have hp2 : (p : Int) < (l.length : Int) := by omega
  have hp3 : p ≤ 1000 := by omega
  have hw2 : IntKind.i64.wrap (x + 1) = x + 1 := IntWalk.i64_in _ (by omega)
  obtain ⟨N, hN⟩ : ∃ N, l.length = N := ⟨_, rfl⟩
  rw [hN] at hp2 hOB hl
  have Hh := Lib.hid (And.intro hp (And.intro hxe (And.intro hb (And.intro hlen (And.intro hnd hN))))); clear hp hxe hb hlen hnd hN
  have hlt := Hh.out.2.2.1.lt
  go_enter Tryz.func145, Tryz.ntmps145
  go_wp2_with fail
  go_region_law? (go_simp; go_at_call 133; refine (doorsOpened_any _ _ locks key _ (hlv.below hdr) (hk.below hdr) hll Hh.out.2.2.2.1).mono ?_; rintro e' wq ⟨vq, rfl, hFq, hbq⟩; obtain ⟨aq, cq, rfl, hqm⟩ := hFq.v1.form; rw [show (doorsOf locks key).length = p from Hh.out.1]; have hb0q : Below w.heap.size w wq := hdr.trans (hbq.mono (Nat.le_refl _)); have hcq : wq.cell? ⟨G, p, none⟩ = some (.int .i64 x) := cell_keep hg (hb0q.block _ (lt_of_cell hg)); have hoq := cell_keep hOB (hb0q.block _ (lt_of_cell hOB)); have hlq := cell_keep hLB (hb0q.block _ (lt_of_cell hLB)); have hfq := (Hh.out.2.2.1.keep (hb0q.block _ hlt)).frozen p; (try dsimp only))
  all_goals go_wp2
  all_goals go_ret
  all_goals exact ⟨rfl, wq, hb0q, rfl⟩
theorem opn_ok (m : Mk) (hm : m.ok = true) (locks : List (List (List Int))) (lv : Value) (N G OB LB : Nat) (W : World) (hN : locks.length < N) (hN2 : N ≤ 1000) (hne : G ≠ OB) (hLG : LB ≠ G ∧ LB ≠ OB) (hLB : W.cell? ⟨LB, 0, none⟩ = some lv)
    (hlv : V3 (fun b => ¬ (b = G ∨ b = OB)) W lv locks) (hlen : ∀ k, k < locks.length → (getll locks k).length = m.c.toNat) :
    VisOk m.c.toNat W (fun b => b = G ∨ b = OB) 145 #[.pointer (some ⟨OB, 0, none⟩), .pointer (some ⟨LB, 0, none⟩)] allStep [] (keysOf m) (PrfInv locks 0 N G OB) := by
  refine ⟨enters_open, ?_, ?_, ?_⟩
  · rintro s F w w' ⟨h1, h2, T, h3⟩ _ h4
    exact ⟨h1, h2.keep (h4 _ ((h1 G).2 (.inl rfl))), T, by rw [h4 _ ((h1 OB).2 (.inr rfl))]; exact h3⟩
  · rintro s F w ⟨h1, h2, T, h3⟩ b hb
    rcases (h1 b).1 hb with e | e
    · rw [e]; exact h2.lt
    · rw [e]; exact lt_of_heap h3
  · rintro s F S w v key done rest hL hr ⟨h1, h2, T, h3⟩ hchg hsub hV hS hkl
    rw [all_run, List.nil_append] at hr
    simp only [Prod.mk.injEq, and_true] at hr
    have hle := keysOf_length hm
    rw [hL] at hle
    have hsl : s.length = done.length := by rw [hr]
    have hnd := ndoors_le locks key
    have hcl := cntL_len locks s 0 N
    have hge := cntL_get (locks := locks) (ks := s) (lo := 0) (n := N) (j := ndoors locks key) (by omega)
    have hcn := cntN_le locks s (0 + ndoors locks key)
    simp at hle
    have hoc := cell_of_block h3 0
    simp at hoc
    refine (open1_any v lv key (cntL locks s 0 N) locks G OB LB w hV h2 (by rw [hcl]; omega) (by omega) (by rw [hge]; omega) (by rw [hcl]; exact hoc) (cell_keep hLB (hchg.block _ (lt_of_cell hLB) (by omega))) (hlv.mono (S' := fun _ => True) (fun _ _ _ => trivial) (hchg.keep fun b hb => hb)) (by omega) (fun k hk => by rw [hlen k hk]; omega)).mono ?_
    rintro e w' ⟨rfl, wq, hbq, rfl⟩
    refine ⟨F, rfl, ⟨h1, ?_, T, ?_⟩, (Chg.of_below (F := F) hbq).setCell (.inl ((h1 G).2 (.inl rfl))) _, fun b hb => .inl hb⟩
    · have := (h2.keep (hbq.block _ h2.lt)).set (ndoors locks key) (geti (cntL locks s 0 N) (ndoors locks key) + 1)
      have e := cntL_set (locks := locks) (ks := s) (k := key) (lo := 0) (n := N) (by omega) (by omega)
      rw [Nat.sub_zero] at e
      rw [e] at this
      exact this
    · rw [heap_setCell_other _ (fun e => hne e.symm)]; exact heap_below h3 hbq (lt_of_heap h3)

theorem op_keep {b b0 off0 : Nat} {cs : Array Value} {u : Value} {w2 w w' : World} (hb : b < w2.heap.size) (h : (∀ o, w2.cell? ⟨b, o, none⟩ = cs[o]?) ∧ w2.cell? ⟨b0, off0, none⟩ = some u ∧ Below w2.heap.size w2 w) (hk : Below w2.heap.size w2 w') :
    (∀ o, w'.cell? ⟨b, o, none⟩ = cs[o]?) ∧ w'.cell? ⟨b0, off0, none⟩ = some u ∧ Below w2.heap.size w2 w' :=
  ⟨fun o => by rw [(bcell hk).1 _ _ hb, h.1], cell_keep h.2.1 (hk.block _ (lt_of_cell h.2.1)), hk⟩
theorem op_below {b b0 off0 : Nat} {cs : Array Value} {u : Value} {w2 w : World} (h : (∀ o, w.cell? ⟨b, o, none⟩ = cs[o]?) ∧ w.cell? ⟨b0, off0, none⟩ = some u ∧ Below w2.heap.size w2 w) : Below w2.heap.size w2 w := h.2.2
theorem op_call {b b0 off0 : Nat} {cs : Array Value} {u : Value} {w2 w w' : World} (h : (∀ o, w.cell? ⟨b, o, none⟩ = cs[o]?) ∧ w.cell? ⟨b0, off0, none⟩ = some u ∧ Below w2.heap.size w2 w) (hb : Below w.heap.size w w') : Below w2.heap.size w2 w' := h.2.2.trans (hb.mono h.2.2.size)
theorem op_alloc {b b0 off0 : Nat} {cs : Array Value} {u : Value} {w2 w : World} {ob : Obj} (h : (∀ o, w.cell? ⟨b, o, none⟩ = cs[o]?) ∧ w.cell? ⟨b0, off0, none⟩ = some u ∧ Below w2.heap.size w2 w) : Below w2.heap.size w2 (w.alloc ob) := h.2.2.alloc h.2.2.size _
theorem op_set {b b0 off0 p q : Nat} {cs : Array Value} {u v : Value} {w2 w : World} (h : (∀ o, w.cell? ⟨b, o, none⟩ = cs[o]?) ∧ w.cell? ⟨b0, off0, none⟩ = some u ∧ Below w2.heap.size w2 w) (hp : w2.heap.size ≤ p) : Below w2.heap.size w2 (w.setCell ⟨p, q, none⟩ v) := h.2.2.setCell (p := ⟨p, q, none⟩) hp v
theorem op_al {w2 w : World} {ob : Obj} (h : Below w2.heap.size w2 w) : Below w2.heap.size w2 (w.alloc ob) := h.alloc h.size _
theorem op_st {w2 w : World} {p q : Nat} {v : Value} (h : Below w2.heap.size w2 w) (hp : w2.heap.size ≤ p) : Below w2.heap.size w2 (w.setCell ⟨p, q, none⟩ v) := h.setCell (p := ⟨p, q, none⟩) hp v
theorem hk_below {w w' : World} {o : Obj} {k : Nat} (h : w.heap[k]? = some o) (hb : Below w.heap.size w w') : w'.heap[k]? = some o := heap_below h hb (lt_of_heap h)
theorem hk_self {w : World} {o : Obj} {k : Nat} (h : k = w.heap.size) : (w.alloc o).heap[k]? = some o := by rw [h]; exact heap_alloc_self _ _
theorem hk_alloc {w : World} {o o' : Obj} {k : Nat} (h : w.heap[k]? = some o) : (w.alloc o').heap[k]? = some o := by
  have := ((Below.refl w.heap.size w).alloc (Nat.le_refl _) o').block k (lt_of_heap h)
  rw [this, h]
theorem hk_drew {w : World} {o : Obj} {k : Nat} (h : w.heap[k]? = some o) : w.drew.heap[k]? = some o := h
theorem hk_set {w : World} {o : Obj} {k b q : Nat} {v : Value} (h : w.heap[k]? = some o) (hne : k ≠ b) : (w.setCell ⟨b, q, none⟩ v).heap[k]? = some o := by rw [heap_setCell_other _ hne, h]
theorem hk_put {w : World} {k : Nat} {u v : Value} {T : TypeId} (h : w.heap[k]? = some (.cells #[u] T (0, 0))) : (w.setCell ⟨k, 0, none⟩ v).heap[k]? = some (.cells #[v] T (0, 0)) := by rw [heap_setCell_self h]; rfl
theorem hk_facts {w : World} {k : Nat} {u : Value} {T : TypeId} (h : w.heap[k]? = some (.cells #[u] T (0, 0))) :
    w.cell? ⟨k, 0, none⟩ = some u ∧ w.frozen? ⟨k, 0, none⟩ = false ∧ (∀ o1, (w.alloc o1).cell? ⟨k, 0, none⟩ = some u) ∧ (∀ o1, (w.alloc o1).frozen? ⟨k, 0, none⟩ = false) ∧ (∀ o1 o2, ((w.alloc o1).alloc o2).cell? ⟨k, 0, none⟩ = some u) ∧ (∀ o1 o2, ((w.alloc o1).alloc o2).frozen? ⟨k, 0, none⟩ = false) := by
  have g : ∀ (w : World), w.heap[k]? = some (.cells #[u] T (0, 0)) → w.cell? ⟨k, 0, none⟩ = some u ∧ w.frozen? ⟨k, 0, none⟩ = false := fun w h => ⟨cell_of_block h 0, frozen_of_block h 0⟩
  exact ⟨(g _ h).1, (g _ h).2, fun o1 => (g _ (hk_alloc h)).1, fun o1 => (g _ (hk_alloc h)).2, fun o1 o2 => (g _ (hk_alloc (hk_alloc h))).1, fun o1 o2 => (g _ (hk_alloc (hk_alloc h))).2⟩
theorem hk_eq {w0 w : World} {o' : Obj} {b : Nat} (hlt : b < w0.heap.size) (h : w.heap[b]? = w0.heap[b]?) : (w.alloc o').heap[b]? = w0.heap[b]? := by
  obtain ⟨x, hx⟩ : ∃ x, w0.heap[b]? = some x := ⟨_, Array.getElem?_eq_getElem hlt⟩
  rw [hx] at h ⊢; exact hk_alloc h
theorem hk_eqs {w0 w : World} {b p q : Nat} {v : Value} (hne : b ≠ p) (h : w.heap[b]? = w0.heap[b]?) : (w.setCell ⟨p, q, none⟩ v).heap[b]? = w0.heap[b]? := by rw [heap_setCell_other _ hne, h]
theorem opn_end (m : Mk) (hm : m.ok = true) (locks : List (List (List Int))) (D : Nat) (hll : locks.length = D) (hD : D ≤ 12) (hlen : ∀ k, k < locks.length → (getll locks k).length = m.c.toNat) (zs : Array Value) (hzs : zs = madeCells (Value.int .i64 0).cells (((D : Int) + 1).toNat * 1)) (lv : Value)
    {w : World} {G OB LB : Nat} {T T' : TypeId} {Q : Ending → World → Prop} (hO : w.heap[OB]? = some (.cells #[.slice (some ⟨G, 0, none⟩) (D + 1) (D + 1)] T (0, 0))) (hG : w.heap[G]? = some (.cells zs 2 (0, 0))) (hL : w.heap[LB]? = some (.cells #[lv] T' (0, 0)))
    (hne : G ≠ OB ∧ LB ≠ G ∧ LB ≠ OB) (hlv : V3 (fun b => ¬ (b = G ∨ b = OB)) w lv locks)
    (hk : ∀ w', w'.cell? ⟨OB, 0, none⟩ = some (.slice (some ⟨G, 0, none⟩) (D + 1) (D + 1)) → BlkI w' G (cntL locks (keysOf m) 0 (D + 1)) → Chg (fun b => b = G ∨ b = OB) w w' → Q (.returned undef) w') :
    Calls Tryz.prog 144 #[.agg #[.int .i64 m.c, .int .i64 m.d, .int .i64 m.s, .int .i64 m.e, .int .i64 m.l], .slice none 0 0, .nilFunc, .func (.func 145) #[] #[.pointer (some ⟨OB, 0, none⟩), .pointer (some ⟨LB, 0, none⟩)]] w Q := by
  have hblk : BlkI w G (cntL locks [] 0 (D + 1)) := by
    rw [cntL_nil]
    refine blk_made hG ?_
    rw [hzs]
    congr 2
  have hI : PrfInv locks 0 (D + 1) G OB [] (fun b => b = G ∨ b = OB) w := ⟨fun b => Iff.rfl, hblk, _, hO⟩
  have hV := opn_ok m hm locks lv (D + 1) G OB LB w (by omega) (by omega) hne.1 hne.2 (cell_of_block hL 0) hlv hlen
  rw [← keysA_all m] at hV
  refine (eachKey_any hm w hV (.inl ⟨rfl, fun _ _ => rfl⟩) hI).mono ?_
  rintro e w' ⟨F', ⟨hF', hblk', T2, hO'⟩, hchg, hsub, rfl⟩
  rw [show genF m (fun _ _ => true) [] false m.c.toNat [] = keysOf m from keysA_all m, all_run, List.nil_append] at hblk'
  exact hk w' (cell_of_block hO' 0) hblk' hchg
/-- How many keys open so many doors. -/
def opnAns (m : Mk) (t cuts : List (List Int)) : List Int × Int :=
  if designC m t cuts ≠ 0 then ([], designC m t cuts) else (cntL (locksTo m.c.toNat t cuts (getl t 0).length) (keysOf m) 0 ((getl t 0).length + 1), 0)
theorem opnAns_few (m : Mk) (t cuts : List (List Int)) : Few (opnAns m t cuts).1 := by
  unfold opnAns
  split
  · exact ⟨by simp, fun x hx => by simp at hx⟩
  · rename_i hp
    have hf := (design_fits (Classical.not_not.1 hp)).1
    have hkl := keysOf_length hf.ok
    have hdoors := hf.doors
    exact cntL_few (by omega) (by omega)
theorem opnAns_len (m : Mk) (t cuts : List (List Int)) : (opnAns m t cuts).1.length ≤ 1048576 := Nat.le_trans (opnAns_few m t cuts).1 (by omega)
theorem F1.nil1 {B : Nat} {w : World} : F1 B w (.slice none 0 0) [] := ⟨0, ⟨none, 0, rfl, Nat.le_refl _, Nat.zero_le _, fun hn => absurd rfl hn⟩, fun hn => absurd rfl hn⟩
set_option maxRecDepth 100000 in
set_option maxHeartbeats 1000000 in
theorem OpeningNumbers_any {S S' : Nat → Prop} (m : Mk) (u v : Value) (t cuts : List (List Int)) (W : World) (h : V2 S W u t) (hc : V2 S' W v cuts) :
    Calls Tryz.prog 45 #[.agg #[.int .i64 m.c, .int .i64 m.d, .int .i64 m.s, .int .i64 m.e, .int .i64 m.l, u], v] W fun e' w' => ∃ v', e' = .returned (.tuple #[v', .int .i64 (opnAns m t cuts).2]) ∧ F1 W.heap.size w' v' (opnAns m t cuts).1 ∧ Below W.heap.size W w' := by
  obtain ⟨a, c, rfl, hmx⟩ := h.form
  obtain ⟨a', c', rfl, hmx'⟩ := hc.form
  obtain ⟨W1, hW1, hB01, hz01, HZ01, hc01, hh01⟩ := box_facts W #[.int .i64 m.c, .int .i64 m.d, .int .i64 m.s, .int .i64 m.e, .int .i64 m.l, .slice a t.length c] 28
  have hV1 := (h.below hB01).any
  have hC1 := (hc.below hB01).any
  have hcode := designCode_any m _ _ t cuts W1 hV1 hC1
  by_cases hp : designC m t cuts = 0
  · rw [hp] at hcode
    have hf := (design_fits hp).1
    have hmc := mc_nat hf.ok
    have hdoors := hf.doors
    have hkl := keysOf_length hf.ok
    have hol := outsOf_length cuts (keysOf m)
    obtain ⟨locks, hlocks⟩ : ∃ x, x = locksTo m.c.toNat t cuts (getl t 0).length := ⟨_, rfl⟩
    obtain ⟨D, hD⟩ : ∃ D, (getl t 0).length = D := ⟨_, rfl⟩
    have hll : locks.length = D := by rw [hlocks, locksTo_len, hD]
    have hrows := hf.rows
    obtain ⟨b0, off0, a0, c0, rfl, _, hcc0, hr0⟩ := hV1.cell (k := 0) (by omega)
    simp only [Nat.add_zero] at hcc0
    have hfin : opnAns m t cuts = (cntL locks (keysOf m) 0 (D + 1), 0) := by unfold opnAns; rw [if_neg (by rw [hp]; decide), ← hlocks, hD]
    rw [hfin]
    rw [hD] at hdoors hcc0
    have hpl := partLocks_any (S := fun _ => True) (S' := fun _ => True) m (.slice (some ⟨b0, off0, none⟩) t.length c) (.slice a' cuts.length c') t cuts m.c.toNat
    rw [← hlocks] at hpl
    have Hf := Lib.hid (And.intro hf (And.intro hmc (And.intro hpl hr0))); clear hf hmc hpl hr0 hol hkl
    have hlen : ∀ k, k < locks.length → (getll locks k).length = m.c.toNat := fun k hk => by rw [hlocks]; rw [hlocks, locksTo_len] at hk; exact lock_len hk
    have Hlen := Lib.hid hlen; clear hlen
    have Hp := Lib.hid (And.intro hp (And.intro hfin (And.intro hlocks (And.intro hD hll)))); clear hp hfin hlocks hD hll
    have Hcode := Lib.hid hcode; clear hcode
    go_enter Tryz.func45, Tryz.ntmps45
    go_wp2_with fail
    rw [← hW1]
    refine Hcode.out.mono ?_
    rintro e' w2 ⟨rfl, hb2⟩
    have hx2 : ∀ o, w2.cell? ⟨W.heap.size, o, none⟩ = (#[.int .i64 m.c, .int .i64 m.d, .int .i64 m.s, .int .i64 m.e, .int .i64 m.l, .slice (some ⟨b0, off0, none⟩) t.length c] : Array Value)[o]? := fun o => by rw [(bcell hb2).1 _ _ hz01, hc01]
    have hz2 : W.heap.size < w2.heap.size := by have := hb2.size; omega
    have hcc2 := cell_keep hcc0 (hb2.block _ (lt_of_cell hcc0))
    have Hcc0 := Lib.hid hcc0; clear hc01 hh01 hcc0
    have h0t : (0 : Int) < (t.length : Int) := by omega
    have hwD : IntKind.i64.wrap ((D : Int) + 1) = (D : Int) + 1 := IntWalk.i64_in _ (by omega)
    have hS2 : (∀ o, w2.cell? ⟨W.heap.size, o, none⟩ = (#[.int .i64 m.c, .int .i64 m.d, .int .i64 m.s, .int .i64 m.e, .int .i64 m.l, .slice (some ⟨b0, off0, none⟩) t.length c] : Array Value)[o]?) ∧ w2.cell? ⟨b0, off0, none⟩ = some (.slice a0 D c0) ∧ Below w2.heap.size w2 w2 := ⟨hx2, hcc2, Below.refl _ _⟩
    have h0t2 : 0 < t.length := by omega
    obtain ⟨zs, hzs⟩ : ∃ zs : Array Value, zs = madeCells (Value.int .i64 0).cells (((D : Int) + 1).toNat * 1) := ⟨_, rfl⟩
    have hmk : ∀ w : World, (Instr.makeSlice 46 (.int .i64 ((D : Int) + 1)) (.int .i64 ((D : Int) + 1))).run Tryz.prog w = .ok (.slice (some ⟨w.heap.size, 0, none⟩) (D + 1) (D + 1)) (w.alloc (.cells zs 2)) := fun w => by
      obtain ⟨i0, gi, gz0, gz1, gz2⟩ := info_parts inf_int
      have := run_make (P := Tryz.prog) w 46 2 i0 _ Tryz.underlying46 gi gz0 .i64 .i64 ((D : Int) + 1) ((D : Int) + 1) (by omega) (Int.le_refl _) (by rw [gz2]; omega) (by omega)
      rw [gz1, ← hzs] at this
      exact this
    have Hzs := Lib.hid hzs; clear hzs
    go_wp2_with fail
    go_region_held3 (fun w' => (∀ o, w'.cell? ⟨W.heap.size, o, none⟩ = (#[.int .i64 m.c, .int .i64 m.d, .int .i64 m.s, .int .i64 m.e, .int .i64 m.l, .slice (some ⟨b0, off0, none⟩) t.length c] : Array Value)[o]?) ∧ w'.cell? ⟨b0, off0, none⟩ = some (.slice a0 D c0) ∧ Below w2.heap.size w2 w')
      (exact op_keep hz2 hS2 (by repeat (first | with_reducible refine op_al ?_ | with_reducible refine op_st ?_ (by first | exact Nat.le_refl _ | exact Nat.le_add_right _ _ | exact Nat.le_add_right _ 2 | exact hBL2.size | exact Nat.le_trans hBL2.size (Nat.le_add_right _ _) | exact Nat.le_trans hBL2.size (Nat.le_add_right _ 2)) | with_reducible exact hBL2 | with_reducible refine Below.drew ?_ | with_reducible exact Below.refl _ _)))
      (first | (go_at_call 126; refine (Hf.out.2.2.1 _ Hf.out.1 Hf.out.2.1 (hV1.below (hb2.trans ((op_below (by assumption)).mono hb2.size))) (hC1.below (hb2.trans ((op_below (by assumption)).mono hb2.size)))).mono ?_; rintro e' wL ⟨lv, rfl, hlv, hbL⟩; obtain ⟨la, lc, rfl, hlm⟩ := hlv.form; have hBL2 := op_call (w2 := w2) (by assumption) hbL; have hzL := hbL.size; (try simp only [World.size_alloc, World.size_setCell, World.size_drew] at hzL); (try (have hob0 : wL.heap[w2.heap.size]? = some _ := hk_below (by repeat (first | with_reducible apply hk_drew | (with_reducible apply hk_self; (simp only [World.size_alloc, World.size_drew]; done)) | with_reducible apply hk_alloc)) hbL; obtain ⟨hp0a, hp0b, hp0c, hp0d, hp0e, hp0f⟩ := hk_facts hob0)); (try (have hob1 : wL.heap[w2.heap.size + 1]? = some _ := hk_below (by repeat (first | with_reducible apply hk_drew | (with_reducible apply hk_self; (simp only [World.size_alloc, World.size_drew]; done)) | with_reducible apply hk_alloc)) hbL; obtain ⟨hp1a, hp1b, hp1c, hp1d, hp1e, hp1f⟩ := hk_facts hob1)); (try (have hob2 : wL.heap[w2.heap.size + 1 + 1]? = some _ := hk_below (by repeat (first | with_reducible apply hk_drew | (with_reducible apply hk_self; (simp only [World.size_alloc, World.size_drew]; done)) | with_reducible apply hk_alloc)) hbL; obtain ⟨hp2a, hp2b, hp2c, hp2d, hp2e, hp2f⟩ := hk_facts hob2))))
    all_goals
      have HS := Lib.hid (op_below (w2 := w2) (by assumption))
      go_wp2_with fail
      apply opn_end m Hf.out.1.ok locks D Hp.out.2.2.2.2 hdoors.2 Hlen.out zs Hzs.out (.slice la locks.length lc)
      case hO => repeat' (first | with_reducible apply hk_drew | with_reducible apply hk_put | (with_reducible apply hk_self; simp only [World.size_alloc, World.size_setCell, World.size_drew]; done) | with_reducible apply hk_alloc | (with_reducible apply hk_set; case hne => omega) | with_reducible apply hk_below _ hbL)
      case hG => repeat' (first | with_reducible apply hk_drew | (with_reducible apply hk_self; simp only [World.size_alloc, World.size_setCell, World.size_drew]; done) | with_reducible apply hk_alloc | (with_reducible apply hk_set; case hne => omega) | with_reducible apply hk_below _ hbL)
      case hL => repeat' (first | with_reducible apply hk_drew | with_reducible apply hk_put | (with_reducible apply hk_self; simp only [World.size_alloc, World.size_setCell, World.size_drew]; done) | with_reducible apply hk_alloc | (with_reducible apply hk_set; case hne => omega) | with_reducible apply hk_below _ hbL)
      case hne => exact ⟨by omega, by omega, by omega⟩
      case hlv =>
        refine V3.mono (w := wL) hlv (fun b hb hlt => ?_) (fun b hb hlt => ?_)
        · (try simp only [World.size_alloc, World.size_setCell, World.size_drew] at hb); omega
        · (try simp only [World.size_alloc, World.size_setCell, World.size_drew] at hb); repeat (first | rfl | (with_reducible apply hk_eq hlt) | (with_reducible apply hk_eqs; case hne => omega))
      case hk =>
        intro w' h1 h2 h3
        have H3 := Lib.hid (And.intro h2 h3); clear h2 h3
        (try dsimp only)
        go_wp2_with fail
        go_ret2
        have hX := H3.out.1.x1 (off := 0) (Nat.zero_le _) (by rw [cntL_len]; omega)
        rw [List.drop_zero, Nat.sub_zero, cntL_len] at hX
        exact ⟨_, rfl, ⟨_, hX, fun _ => by omega⟩, hB01.trans ((hb2.trans ((HS.out.trans (H3.out.2.to_below (fun i hi => by rcases hi with h | h <;> omega) HS.out.size)).mono hb2.size)).mono (by omega))⟩
  · have hfin : opnAns m t cuts = ([], designC m t cuts) := by unfold opnAns; rw [if_pos hp]; (try rfl)
    have e1 : (designC m t cuts != 0) = true := by simp [hp]
    rw [hfin]
    have Hp := Lib.hid (And.intro hp hfin); clear hp hfin
    generalize designC m t cuts = pc at *
    go_enter Tryz.func45, Tryz.ntmps45
    go_wp2_with fail
    rw [← hW1]
    refine hcode.mono ?_
    rintro e' w2 ⟨rfl, hb2⟩
    clear hc01 hh01
    go_wp2_with fail
    go_ret2
    exact ⟨_, rfl, F1.nil1, hB01.trans (hb2.mono (by omega))⟩
end Go.Proofs.YtmfgdoflddhngaaGreat

namespace Go.Proofs.YtmfgdoflddhngaaGreat
open Go.RowKit
set_option linter.unusedVariables false
set_option linter.unusedSimpArgs false

theorem doorsTo_step (locks : List (List (List Int))) (key : List Int) (k : Nat) : (doorsTo locks key (k + 1)).length = if opensB (getll locks k) key = true then (doorsTo locks key k).length + 1 else (doorsTo locks key k).length := by
  rw [doorsTo]; split <;> simp
set_option maxRecDepth 100000 in
set_option maxHeartbeats 4000000 in
theorem l21Numbers_any {S S' : Nat → Prop} (m : Mk) (u v : Value) (t cuts : List (List Int)) (n : Nat) (W : World) (hf : Fits m t cuts) (hn : (n : Int) = m.c) (h : V2 S W u t) (hc : V2 S' W v cuts) :
    Calls Tryz.prog 146 #[.agg #[.int .i64 m.c, .int .i64 m.d, .int .i64 m.s, .int .i64 m.e, .int .i64 m.l, u], v] W fun e' w' => ∃ G : Nat, e' = .returned (.slice (some ⟨G, 0, none⟩) ((getl t 0).length + 1) ((getl t 0).length + 1)) ∧ W.heap.size ≤ G ∧
      BlkI w' G (cntL (locksTo n t cuts (getl t 0).length) (keysOf m) 0 ((getl t 0).length + 1)) ∧ Below W.heap.size W w' := by
  obtain ⟨a, c, rfl, hmx⟩ := h.form
  obtain ⟨a', c', rfl, hmx'⟩ := hc.form
  have hrows := hf.rows
  have hdoors := hf.doors
  have hok := hf.ok
  have hkl := keysOf_length hok
  have hmk := Mk.ok_iff.1 hok
  have hc0 : 0 ≤ m.c := by omega
  have hkey : ∀ k, k ∈ keysOf m → k.length = n ∧ (k.length : Int) = m.c ∧ ∀ i, i < k.length → 0 ≤ geti k i ∧ geti k i ≤ 7 := fun k hk => by
    have h1 := isKey_iff.1 ((mem_keysOf hc0).1 hk)
    refine ⟨by omega, h1.1, fun i hi => ?_⟩
    have := h1.2.1 _ (geti_mem hi)
    omega
  obtain ⟨W1, hW1, hB01, hz01, HZ01, hc01, hh01⟩ := box_facts W #[.int .i64 m.c, .int .i64 m.d, .int .i64 m.s, .int .i64 m.e, .int .i64 m.l, .slice a t.length c] 28
  have hV1 := (h.below hB01).old
  have hC1 := (hc.below hB01).old
  obtain ⟨b0, off0, a0, c0, rfl, _, hcc0, hr0⟩ := h.cell (k := 0) (by omega)
  simp only [Nat.add_zero] at hcc0
  have hlocksF := fun (w : World) (hv : V2 (fun _ => True) w (.slice (some ⟨b0, off0, none⟩) t.length c) t) (hc : V2 (fun _ => True) w (.slice a' cuts.length c') cuts) => l15Locks_any m _ _ t cuts n w hf hn hv hc
  have hfirst := l02First_any m hok m.c.toNat (fun _ => False) (.slice none 0 0) []
  rw [genB_nil] at hfirst
  have hcc : ((m.c.toNat : Nat) : Int) = m.c := by omega
  obtain ⟨locks, hlocks⟩ : ∃ x, x = locksTo n t cuts (getl t 0).length := ⟨_, rfl⟩
  obtain ⟨D, hD⟩ : ∃ D, (getl t 0).length = D := ⟨_, rfl⟩
  have hll : locks.length = D := by rw [hlocks, locksTo_len, hD]
  have hlk : ∀ k, k < locks.length → (getll locks k).length = n := fun k hk => by rw [hlocks]; rw [hlocks, locksTo_len] at hk; exact lock_len hk
  rw [← hlocks] at hlocksF ⊢
  rw [hD] at hcc0 hdoors ⊢
  have hcA : ∀ o1, (W.alloc o1).cell? ⟨b0, off0, none⟩ = some (.slice a0 D c0) := fun o1 => cell_keep hcc0 ((show Below W.heap.size W (W.alloc o1) from by go_grown).block _ (lt_of_cell hcc0))
  have Hfirst := Lib.hid (And.intro hfirst hcc); clear hfirst hcc
  have Hkey := Lib.hid (And.intro hkey hkl); clear hkey hkl hmk
  have Hlk := Lib.hid (And.intro hlk (And.intro hlocksF hlocks)); clear hlk hlocksF hlocks
  have Hf := Lib.hid (And.intro hf (And.intro hn (And.intro hok (And.intro hc0 hD)))); clear hf hn hok hc0 hD hcc0 hr0
  go_enter Tryz.func146, Tryz.ntmps146
  go_wp2_with (at_make; refine wp_mk _ rfl _ _ 46 rfl 2 (.int .i64 0) 1 8 Tryz.underlying46 inf_int (D + 1) rfl rfl (by omega) (by omega) ?_; intro w2 cs0 hh0 hs0 ht0 hB0 hsz0; rw [← hW1] at hh0 hB0 hsz0; have hx2 : ∀ o, w2.cell? ⟨W.heap.size, o, none⟩ = (#[.int .i64 m.c, .int .i64 m.d, .int .i64 m.s, .int .i64 m.e, .int .i64 m.l, .slice (some ⟨b0, off0, none⟩) t.length c] : Array Value)[o]? := (fun o => by rw [(bcell hB0).1 _ _ hz01, hc01]); have hz2 : W.heap.size < w2.heap.size := (by have := hB0.size; omega))
  have hblk := blk_made hh0 ht0
  rw [HZ01.out] at hblk
  rw [← cntL_nil locks 0 (D + 1)] at hblk
  have hlt2 := hblk.lt
  refine (Hlk.out.2.1 _ (hV1.below hB0).any (hC1.below hB0).any).mono ?_
  rintro e' wL ⟨lv, rfl, hLk0, hbL⟩
  obtain ⟨la, lc, rfl, hlm⟩ := hLk0.form
  have hBL := hB0.trans (hbL.mono hB0.size)
  have hzL := hbL.size
  have hxL : ∀ o, wL.cell? ⟨W.heap.size, o, none⟩ = (#[.int .i64 m.c, .int .i64 m.d, .int .i64 m.s, .int .i64 m.e, .int .i64 m.l, .slice (some ⟨b0, off0, none⟩) t.length c] : Array Value)[o]? := fun o => by rw [(bcell hBL).1 _ _ hz01, hc01]
  have hblkL := hblk.keep (hbL.block _ hlt2)
  have hLk1 : V3 (fun b => b ≠ W.heap.size + 1) wL (.slice la locks.length lc) locks := hLk0.mono (fun b h1 h2 => by intro e; omega) (fun _ _ _ => rfl)
  have HW1 := Lib.hid hW1; clear hW1 hh01
  have Hc01 := Lib.hid hc01; clear hc01 hcA
  have HL := Lib.hid (And.intro hLk1 hblkL); clear hLk1 hblkL hblk hLk0 hh0 ht0 hx2
  go_wp2_with fail
  refine (Hfirst.out.1 _ ⟨none, 0, rfl, Nat.le_refl _, Nat.zero_le _, fun k hk => by simp at hk⟩ (fun _ => .inl rfl) (by have := Hfirst.out.2; simp; omega) (fun k hk => by simp at hk)).mono ?_
  rintro e' wF ⟨kv, rfl, hkv, hbF⟩
  have hkv0 : (nextAns (keysOf m)).2 = true → V1 (fun b => b ≠ W.heap.size + 1) wF kv (nextAns (keysOf m)).1 := fun hh => (hkv hh).mono (fun b h1 h2 => by
    rcases h1 with h1 | h1
    · exact h1.elim
    · intro e; omega) (fun _ _ _ => rfl)
  have hblkF := HL.out.2.keep (hbF.block _ (by omega))
  have HI := Lib.hid (And.intro hkv0 (And.intro hblkF HL.out.1)); clear hkv hkv0 hblkF HL hxL
  have HB := Lib.hid (And.intro hBL hbF); clear hBL hB0 hbL
  have hzF := hbF.size
  clear hbF
  go_wp2_with fail
  go_loopw [7, 8, 9, 10] (fun kv okv _ _ wr => ∃ (L1 L2 : List (List Int)), keysOf m = L1 ++ L2 ∧ okv = .bool (nextAns L2).2 ∧ ((nextAns L2).2 = true → V1 (fun b => b ≠ W.heap.size + 1) wr kv (nextAns L2).1) ∧ BlkI wr (W.heap.size + 1) (cntL locks L1 0 (D + 1)) ∧ Chg (fun b => b = W.heap.size + 1) wL wr) (fun kv okv _ _ wr => toCome m wr kv okv)
  case atStart => exact ⟨[], keysOf m, rfl, rfl, HI.out.1, HI.out.2.1, Chg.of_below HB.out.2⟩
  case round =>
    obtain ⟨L1, L2, hL, hok, hkv, hblk, hch⟩ := hrel
    obtain ⟨wo, rfl⟩ : ∃ wo, wo = wr := ⟨_, rfl⟩
    have hzr := hch.size
    have hLl : L1.length ≤ 262144 := by have := Hkey.out.2; rw [hL, List.length_append] at this; omega
    cases L2 with
    | nil =>
      rw [List.append_nil] at hL
      have hok' : _ = Value.bool false := hok
      subst hok'
      rw [← hL] at hblk
      have HV4 := Lib.hid hblk; clear hblk hkv
      go_wp2_with fail
      go_ret
      exact ⟨_, rfl, by omega, HV4.out, hB01.trans ((HB.out.1.trans (hch.to_below (B := W1.heap.size) (fun i hi => by have := HZ01.out; omega) HB.out.1.size)).mono (by omega))⟩
    | cons k r =>
      have hok' : _ = Value.bool true := hok
      subst hok'
      have hk1 := hkv rfl
      have hk1' : V1 _ wo _ k := hk1
      obtain ⟨hkn, hkc, hkr⟩ := Hkey.out.1 k (by rw [hL]; simp)
      have hbeh := keys_behind Hf.out.2.2.2.1 hL
      obtain ⟨ka, kc, rfl, hkm⟩ := hk1'.form
      have hkn2 : k.length ≤ n := by omega
      have Hk := Lib.hid (And.intro hkc (And.intro hkr hbeh)); clear hkc hkr hbeh hkv hkn
      have hL' : keysOf m = (L1 ++ [k]) ++ r := by rw [hL]; simp
      have HL' := Lib.hid (And.intro hL hL'); clear hL hL'
      have hV3 : V3 (fun _ => True) wo (.slice la locks.length lc) locks := HI.out.2.2.mono (fun _ _ _ => trivial) (hch.keep fun b hb => hb)
      have hxo : ∀ o, wo.cell? ⟨W.heap.size, o, none⟩ = (#[.int .i64 m.c, .int .i64 m.d, .int .i64 m.s, .int .i64 m.e, .int .i64 m.l, .slice (some ⟨b0, off0, none⟩) t.length c] : Array Value)[o]? := fun o => by rw [hch.cell (by omega) (by omega), (bcell HB.out.1).1 _ _ hz01, Hc01.out]
      clear hk1
      obtain ⟨p, hp⟩ : ∃ p, ndoors locks k = p := ⟨_, rfl⟩
      have hpD : p ≤ D := by rw [← hp, ← hll]; exact ndoors_le locks k
      have hlk := cntL_len locks L1 0 (D + 1)
      have hge := cntL_get (locks := locks) (ks := L1) (lo := 0) (n := D + 1) (j := p) (by omega)
      have hcn := cntN_le locks L1 (0 + p)
      obtain ⟨x, hx⟩ : ∃ x, geti (cntL locks L1 0 (D + 1)) p = x := ⟨_, rfl⟩
      have hxb : 0 ≤ x ∧ x ≤ 262144 := by omega
      have hst := cntL_set (locks := locks) (ks := L1) (k := k) (lo := 0) (n := D + 1) (by omega) (by omega)
      rw [Nat.sub_zero, hp, hx] at hst
      have hcell := hblk.cell (k := p) (by omega)
      rw [hx] at hcell
      have Hst := Lib.hid (And.intro hst (And.intro hp (And.intro hblk hcell))); clear hst hp hblk hx hge hcn hcell hlk
      have hw2 : IntKind.i64.wrap (x + 1) = x + 1 := IntWalk.i64_in _ (by omega)
      have hp0 : (0 : Int) ≤ (p : Int) := by omega
      have hpD2 : (p : Int) < (D : Int) + 1 := by omega
      go_wp2_with fail
      go_loopw [9, 10] (fun ob j wn => ∃ q : Nat, q ≤ locks.length ∧ j = .int .i64 (q : Int) ∧ ob = .int .i64 ((doorsTo locks k q).length : Int) ∧ Below wo.heap.size wo wn) (fun _ j _ => locks.length - (intOf j).toNat)
      case atStart => exact ⟨0, Nat.zero_le _, rfl, rfl, Below.refl _ _⟩
      case round =>
        obtain ⟨q, hq, rfl, rfl, hBn⟩ := hrel
        have hzn := hBn.size
        by_cases hqq : q < locks.length
        · obtain ⟨b2, off2, a2, c2, rfl, _, hc2, hr2⟩ := (hV3.below hBn).cell hqq
          have hlen : k.length ≤ (getll locks q).length := by rw [Hlk.out.1 q hqq]; exact hkn2
          have hst := doorsTo_step locks k q
          have hdl := doorsTo_len locks k q
          have hop := l04Opens_any _ _ (getll locks q) k _ hr2 (hk1'.below hBn) hlen
          cases ho : opensB (getll locks q) k
          · rw [ho] at hop
            rw [if_neg (by rw [ho]; decide)] at hst
            have Hst2 := Lib.hid (And.intro hst ho); clear hst ho
            have Hop := Lib.hid hop; clear hop
            go_wp2_with fail
            refine Hop.out.mono ?_
            rintro e' w5 ⟨rfl, hb5⟩
            clear hc2 hr2
            go_wp2_with fail
            go_roundw
            case rel => exact ⟨q + 1, by omega, by go_num, by rw [Hst2.out.1], hBn.trans (hb5.mono hzn)⟩
            case measure => simp [intOf]; omega
          · rw [ho] at hop
            rw [if_pos ho] at hst
            have Hst2 := Lib.hid (And.intro hst ho); clear hst ho
            have Hop := Lib.hid hop; clear hop
            go_wp2_with fail
            refine Hop.out.mono ?_
            rintro e' w5 ⟨rfl, hb5⟩
            clear hc2 hr2
            go_wp2_with fail
            go_roundw
            case rel => exact ⟨q + 1, by omega, by go_num, by rw [Hst2.out.1]; go_num, hBn.trans (hb5.mono hzn)⟩
            case measure => simp [intOf]; omega
        · obtain rfl : q = locks.length := by omega
          rw [show (doorsTo locks k locks.length).length = p from Hst.out.2.1]
          have hGw : W.heap.size + 1 < wo.heap.size := by omega
          have hblkW := Hst.out.2.2.1.keep (hBn.block _ hGw)
          have hcellW := cell_keep Hst.out.2.2.2 (hBn.block _ hGw)
          have hfrW := hblkW.frozen p
          have hxW : ∀ o, wr.cell? ⟨W.heap.size, o, none⟩ = (#[.int .i64 m.c, .int .i64 m.d, .int .i64 m.s, .int .i64 m.e, .int .i64 m.l, .slice (some ⟨b0, off0, none⟩) t.length c] : Array Value)[o]? := fun o => by rw [(bcell hBn).1 _ _ (by omega), hxo]
          have hzw : W.heap.size < wr.heap.size := by omega
          have hkW := hk1'.below hBn
          obtain ⟨wS, hwS⟩ : ∃ wS, wS = wr.setCell ⟨W.heap.size + 1, p, none⟩ (.int .i64 (x + 1)) := ⟨_, rfl⟩
          have hchS : Chg (fun b => b = W.heap.size + 1) wr wS := by rw [hwS]; exact Chg.setCell (F := fun b => b = W.heap.size + 1) (Chg.refl _ wr) (p := ⟨W.heap.size + 1, p, none⟩) (.inl rfl) _
          have hxS : ∀ o, wS.cell? ⟨W.heap.size, o, none⟩ = (#[.int .i64 m.c, .int .i64 m.d, .int .i64 m.s, .int .i64 m.e, .int .i64 m.l, .slice (some ⟨b0, off0, none⟩) t.length c] : Array Value)[o]? := fun o => by rw [hchS.cell hzw (by omega), hxW]
          have hblkS : BlkI wS (W.heap.size + 1) (cntL locks (L1 ++ [k]) 0 (D + 1)) := by rw [hwS, ← Hst.out.1]; exact hblkW.set p (x + 1)
          have hkS : V1 (fun b => b ≠ W.heap.size + 1) wS (.slice ka k.length kc) k := hkW.mono (fun b h1 h2 => h1) (hchS.keep fun b hb => hb)
          have hchA := (hch.then_below hBn).trans hchS (fun i hi => .inl hi)
          have hzS := hchS.size
          have HS := Lib.hid (And.intro hblkS hchA); clear hblkS hchA hchS hblkW hkW
          go_wp2_with fail
          simp only [← hwS]
          go_wp2_with fail
          refine (l02Next_any m Hf.out.2.2.1 _ k _ hkS Hk.out.1 Hk.out.2.1).mono ?_
          rintro e' wM ⟨kv', he', hkv', hbM⟩
          rw [Hk.out.2.2] at he' hkv'
          subst he'
          have hkv2 : (nextAns r).2 = true → V1 (fun b => b ≠ W.heap.size + 1) wM kv' (nextAns r).1 := fun hh => (hkv' hh).mono (fun b h1 h2 => by
            rcases h1 with h1 | h1
            · exact h1.elim
            · intro e; omega) (fun _ _ _ => rfl)
          have HM := Lib.hid (And.intro hkv2 (And.intro (toCome_next Hf.out.2.2.2.1 hkv2 HL'.out.2) (toCome_more (m := m) hk1'))); clear hkv' hkv2 hxS
          obtain ⟨qb, hqb⟩ : ∃ qb, (nextAns r).2 = qb := ⟨_, rfl⟩
          rw [hqb]
          have Hqb := Lib.hid hqb; clear hqb
          go_wp2_with fail
          go_roundw
          case rel => exact ⟨L1 ++ [k], r, HL'.out.2, by rw [Hqb.out], HM.out.1, HS.out.1.keep (hbM.block _ (by omega)), HS.out.2.then_below hbM⟩
          case measure => rw [HM.out.2.2, Hk.out.2.2]; have := HM.out.2.1; rw [Hqb.out] at this; omega
end Go.Proofs.YtmfgdoflddhngaaGreat

namespace Go.Proofs.YtmfgdoflddhngaaGreat
open Go.RowKit
set_option linter.unusedVariables false
set_option linter.unusedSimpArgs false

set_option maxRecDepth 100000 in
theorem OpeningNumbersR_any {S S' : Nat → Prop} (m : Mk) (u v : Value) (t cuts : List (List Int)) (W : World) (h : V2 S W u t) (hc : V2 S' W v cuts) :
    Calls Tryz.prog 46 #[.agg #[.int .i64 m.c, .int .i64 m.d, .int .i64 m.s, .int .i64 m.e, .int .i64 m.l, u], v] W fun e' w' => ∃ v', e' = .returned (.tuple #[v', .int .i64 (opnAns m t cuts).2]) ∧ V1 (fun b => b < w'.heap.size) w' v' (opnAns m t cuts).1 ∧ Below W.heap.size W w' := by
  obtain ⟨a, c, rfl, hmx⟩ := h.form
  obtain ⟨a', c', rfl, hmx'⟩ := hc.form
  obtain ⟨W1, hW1, hB01, hz01, HZ01, hc01, hh01⟩ := box_facts W #[.int .i64 m.c, .int .i64 m.d, .int .i64 m.s, .int .i64 m.e, .int .i64 m.l, .slice a t.length c] 28
  have hV1 := (h.below hB01).any
  have hC1 := (hc.below hB01).any
  have hcode := l21Code_any m _ _ t cuts W1 hV1 hC1
  by_cases hp : designC m t cuts = 0
  · rw [hp] at hcode
    have hf := (design_fits hp).1
    have hmc := mc_nat hf.ok
    have hdoors := hf.doors
    have hkl := keysOf_length hf.ok
    have hol := outsOf_length cuts (keysOf m)
    obtain ⟨locks, hlocks⟩ : ∃ x, x = locksTo m.c.toNat t cuts (getl t 0).length := ⟨_, rfl⟩
    obtain ⟨D, hD⟩ : ∃ D, (getl t 0).length = D := ⟨_, rfl⟩
    have hll : locks.length = D := by rw [hlocks, locksTo_len, hD]
    have hfin : opnAns m t cuts = (cntL locks (keysOf m) 0 (D + 1), 0) := by unfold opnAns; rw [if_neg (by rw [hp]; decide), ← hlocks, hD]
    have hpr := l21Numbers_any (S := fun _ => True) (S' := fun _ => True) m (.slice a t.length c) (.slice a' cuts.length c') t cuts m.c.toNat
    rw [← hlocks, hD] at hpr
    rw [hfin]
    rw [hD] at hdoors
    have Hf := Lib.hid (And.intro hf (And.intro hmc hpr)); clear hf hmc hpr hol hkl
    have Hp := Lib.hid (And.intro hp (And.intro hfin (And.intro hlocks (And.intro hD hll)))); clear hp hfin hlocks hD hll
    have Hcode := Lib.hid hcode; clear hcode
    go_enter Tryz.func46, Tryz.ntmps46
    go_wp2_with fail
    rw [← hW1]
    refine Hcode.out.mono ?_
    rintro e' w2 ⟨rfl, hb2⟩
    have hx2 : ∀ o, w2.cell? ⟨W.heap.size, o, none⟩ = (#[.int .i64 m.c, .int .i64 m.d, .int .i64 m.s, .int .i64 m.e, .int .i64 m.l, .slice a t.length c] : Array Value)[o]? := fun o => by rw [(bcell hb2).1 _ _ hz01, hc01]
    have hz2 : W.heap.size < w2.heap.size := by have := hb2.size; omega
    clear hc01 hh01
    go_wp2_with fail
    refine (Hf.out.2.2 _ Hf.out.1 Hf.out.2.1 (hV1.below hb2) (hC1.below hb2)).mono ?_
    rintro e' w3 ⟨G, rfl, hG, hblk, hb3⟩
    have Hblk := Lib.hid hblk; clear hblk hx2
    go_wp2_with fail
    go_ret2
    have hX := Hblk.out.x1 (off := 0) (Nat.zero_le _) (by rw [cntL_len]; omega)
    rw [List.drop_zero, Nat.sub_zero, cntL_len] at hX
    exact ⟨_, rfl, (hX.v1 (S := fun _ => True) (fun _ => trivial)).old, hB01.trans ((hb2.trans (hb3.mono hb2.size)).mono (by omega))⟩
  · have hfin : opnAns m t cuts = ([], designC m t cuts) := by unfold opnAns; rw [if_pos hp]; (try rfl)
    have e1 : (designC m t cuts != 0) = true := by simp [hp]
    rw [hfin]
    have Hp := Lib.hid (And.intro hp hfin); clear hp hfin
    generalize designC m t cuts = pc at *
    go_enter Tryz.func46, Tryz.ntmps46
    go_wp2_with fail
    rw [← hW1]
    refine hcode.mono ?_
    rintro e' w2 ⟨rfl, hb2⟩
    clear hc01 hh01
    go_wp2_with fail
    go_ret2
    exact ⟨_, rfl, (F1.nil1 (B := 0)).v1.old, hB01.trans (hb2.mono (by omega))⟩

/-- How many keys open some door. -/
def byLAns (m : Mk) (t cuts : List (List Int)) : Int × Int := if designC m t cuts ≠ 0 then (0, designC m t cuts) else ((cntL (locksTo m.c.toNat t cuts (getl t 0).length) (keysOf m) 1 (getl t 0).length).sum, 0)
theorem X1.tail {w : World} {b : Nat} {a : Option Addr} {n c : Nat} {l : List Int} (h : X1 w (.slice a n c) l b) (hn : l ≠ []) : ∃ off, a = some ⟨b, off, none⟩ ∧ X1 w (.slice (some ⟨b, off + 1, none⟩) (l.length - 1) (c - 1)) (l.drop 1) b := by
  obtain ⟨a', c', e, h1, h2, h3⟩ := h
  simp only [Value.slice.injEq] at e
  obtain ⟨rfl, rfl, rfl⟩ := e
  obtain ⟨off, cs, T, rfl, h4, h5⟩ := h3 hn
  have hl : 0 < l.length := List.length_pos_iff.2 hn
  refine ⟨off, rfl, _, c - 1, by rw [List.length_drop], by rw [List.length_drop]; omega, by omega, fun _ => ⟨off + 1, cs, T, rfl, h4, fun k hk => ?_⟩⟩
  rw [List.length_drop] at hk
  have e : geti (l.drop 1) k = geti l (1 + k) := by simp [geti, Nat.add_comm]
  rw [e, Nat.add_assoc]
  exact h5 (1 + k) (by omega)
set_option maxRecDepth 100000 in
theorem CountByLocksR_any {S S' : Nat → Prop} (m : Mk) (u v : Value) (t cuts : List (List Int)) (W : World) (h : V2 S W u t) (hc : V2 S' W v cuts) :
    Calls Tryz.prog 48 #[.agg #[.int .i64 m.c, .int .i64 m.d, .int .i64 m.s, .int .i64 m.e, .int .i64 m.l, u], v] W fun e' w' => e' = .returned (.tuple #[.int .i64 (byLAns m t cuts).1, .int .i64 (byLAns m t cuts).2]) ∧ Below W.heap.size W w' := by
  obtain ⟨a, c, rfl, hmx⟩ := h.form
  obtain ⟨a', c', rfl, hmx'⟩ := hc.form
  obtain ⟨W1, hW1, hB01, hz01, HZ01, hc01, hh01⟩ := box_facts W #[.int .i64 m.c, .int .i64 m.d, .int .i64 m.s, .int .i64 m.e, .int .i64 m.l, .slice a t.length c] 28
  have hV1 := (h.below hB01).any
  have hC1 := (hc.below hB01).any
  have hcode := l21Code_any m _ _ t cuts W1 hV1 hC1
  by_cases hp : designC m t cuts = 0
  · rw [hp] at hcode
    have hf := (design_fits hp).1
    have hmc := mc_nat hf.ok
    have hdoors := hf.doors
    have hkl := keysOf_length hf.ok
    have hol := outsOf_length cuts (keysOf m)
    obtain ⟨locks, hlocks⟩ : ∃ x, x = locksTo m.c.toNat t cuts (getl t 0).length := ⟨_, rfl⟩
    obtain ⟨D, hD⟩ : ∃ D, (getl t 0).length = D := ⟨_, rfl⟩
    have hll : locks.length = D := by rw [hlocks, locksTo_len, hD]
    have hfin : byLAns m t cuts = ((cntL locks (keysOf m) 1 D).sum, 0) := by unfold byLAns; rw [if_neg (by rw [hp]; decide), ← hlocks, hD]
    have hpr := l21Numbers_any (S := fun _ => True) (S' := fun _ => True) m (.slice a t.length c) (.slice a' cuts.length c') t cuts m.c.toNat
    rw [← hlocks, hD] at hpr
    rw [hfin]
    rw [hD] at hdoors
    obtain ⟨r, hr⟩ : ∃ r, (cntL locks (keysOf m) 1 D).sum = r := ⟨_, rfl⟩
    have hfew := cntL_few (locks := locks) (ks := keysOf m) (lo := 1) (n := D) (by omega) (by omega)
    rw [hr]
    have Hf := Lib.hid (And.intro hf (And.intro hmc (And.intro hpr hfew))); clear hf hmc hpr hol hkl hfew
    have Hp := Lib.hid (And.intro hp (And.intro hfin (And.intro hlocks (And.intro hD (And.intro hll hr))))); clear hp hfin hlocks hD hll hr
    have Hcode := Lib.hid hcode; clear hcode
    go_enter Tryz.func48, Tryz.ntmps48
    go_wp2_with fail
    rw [← hW1]
    refine Hcode.out.mono ?_
    rintro e' w2 ⟨rfl, hb2⟩
    have hx2 : ∀ o, w2.cell? ⟨W.heap.size, o, none⟩ = (#[.int .i64 m.c, .int .i64 m.d, .int .i64 m.s, .int .i64 m.e, .int .i64 m.l, .slice a t.length c] : Array Value)[o]? := fun o => by rw [(bcell hb2).1 _ _ hz01, hc01]
    have hz2 : W.heap.size < w2.heap.size := by have := hb2.size; omega
    clear hc01 hh01
    go_wp2_with fail
    refine (Hf.out.2.2.1 _ Hf.out.1 Hf.out.2.1 (hV1.below hb2) (hC1.below hb2)).mono ?_
    rintro e' w3 ⟨G, rfl, hG, hblk, hb3⟩
    have hx := hblk.x1 (off := 1) (by rw [cntL_len]; omega) (by rw [cntL_len]; omega)
    rw [cntL_drop, cntL_len] at hx
    have Hx := Lib.hid (hx.v1 (S := fun _ => True) (fun _ => trivial)); clear hx hblk hx2
    have h1D : (1 : Int) ≤ ((D : Int) + 1) := by omega
    go_wp2_with fail
    refine (l01Sum_any _ (cntL locks (keysOf m) 1 D) _ r Hp.out.2.2.2.2.2 Hx.out Hf.out.2.2.2).mono ?_
    rintro e' w4 ⟨rfl, rfl⟩
    go_wp2_with fail
    go_ret2
    exact ⟨rfl, hB01.trans ((hb2.trans (hb3.mono hb2.size)).mono (by omega))⟩
  · have hfin : byLAns m t cuts = (0, designC m t cuts) := by unfold byLAns; rw [if_pos hp]; (try rfl)
    have e1 : (designC m t cuts != 0) = true := by simp [hp]
    rw [hfin]
    have Hp := Lib.hid (And.intro hp hfin); clear hp hfin
    generalize designC m t cuts = pc at *
    go_enter Tryz.func48, Tryz.ntmps48
    go_wp2_with fail
    rw [← hW1]
    refine hcode.mono ?_
    rintro e' w2 ⟨rfl, hb2⟩
    clear hc01 hh01
    go_wp2_with fail
    go_ret2
    exact ⟨rfl, hB01.trans (hb2.mono (by omega))⟩
set_option maxRecDepth 100000 in
theorem CountByLocks_any {S S' : Nat → Prop} (m : Mk) (u v : Value) (t cuts : List (List Int)) (W : World) (h : V2 S W u t) (hc : V2 S' W v cuts) :
    Calls Tryz.prog 47 #[.agg #[.int .i64 m.c, .int .i64 m.d, .int .i64 m.s, .int .i64 m.e, .int .i64 m.l, u], v] W fun e' w' => e' = .returned (.tuple #[.int .i64 (byLAns m t cuts).1, .int .i64 (byLAns m t cuts).2]) ∧ Below W.heap.size W w' := by
  obtain ⟨a, c, rfl, hmx⟩ := h.form
  obtain ⟨a', c', rfl, hmx'⟩ := hc.form
  obtain ⟨W1, hW1, hB01, hz01, HZ01, hc01, hh01⟩ := box_facts W #[.int .i64 m.c, .int .i64 m.d, .int .i64 m.s, .int .i64 m.e, .int .i64 m.l, .slice a t.length c] 28
  have hall := OpeningNumbers_any m _ _ t cuts W1 (h.below hB01) (hc.below hB01)
  by_cases hp : designC m t cuts = 0
  · have hf := (design_fits hp).1
    have hdoors := hf.doors
    have hkl := keysOf_length hf.ok
    obtain ⟨locks, hlocks⟩ : ∃ x, x = locksTo m.c.toNat t cuts (getl t 0).length := ⟨_, rfl⟩
    obtain ⟨D, hD⟩ : ∃ D, (getl t 0).length = D := ⟨_, rfl⟩
    have hfin : opnAns m t cuts = (cntL locks (keysOf m) 0 (D + 1), 0) := by unfold opnAns; rw [if_neg (by rw [hp]; decide), ← hlocks, hD]
    have hfin2 : byLAns m t cuts = ((cntL locks (keysOf m) 1 D).sum, 0) := by unfold byLAns; rw [if_neg (by rw [hp]; decide), ← hlocks, hD]
    rw [hfin] at hall
    rw [hfin2]
    rw [hD] at hdoors
    obtain ⟨r, hr⟩ : ∃ r, (cntL locks (keysOf m) 1 D).sum = r := ⟨_, rfl⟩
    have hfew := cntL_few (locks := locks) (ks := keysOf m) (lo := 1) (n := D) (by omega) (by omega)
    rw [hr]
    have Hf := Lib.hid (And.intro hr hfew); clear hf hkl hfew hr hfin hfin2 hlocks hD hp
    go_enter Tryz.func47, Tryz.ntmps47
    go_wp2_with fail
    rw [← hW1]
    refine hall.mono ?_
    rintro e' w2 ⟨v', rfl, ⟨G, hX, hG⟩, hb2⟩
    obtain ⟨av, cv, rfl, hcv, hmv, _⟩ := id hX
    obtain ⟨off, rfl, hXt⟩ := hX.tail (by intro e; have := cntL_len locks (keysOf m) 0 (D + 1); rw [e] at this; simp at this)
    rw [cntL_drop, cntL_len] at hXt
    rw [cntL_len] at hcv ⊢
    have Hx := Lib.hid (hXt.v1 (S := fun _ => True) (fun _ => trivial)); clear hXt hX
    have h1D : (1 : Int) ≤ ((D : Int) + 1) := by omega
    have hcv2 : ((D : Int) + 1) ≤ (cv : Int) := by omega
    unfold maxLen at hmv
    clear hc01 hh01
    go_wp2_with fail
    refine (sum_any _ (cntL locks (keysOf m) 1 D) _ r Hf.out.1 Hx.out Hf.out.2).mono ?_
    rintro e' w4 ⟨rfl, rfl⟩
    go_wp2_with fail
    go_ret2
    exact ⟨rfl, hB01.trans (hb2.mono (by omega))⟩
  · have hfin : opnAns m t cuts = ([], designC m t cuts) := by unfold opnAns; rw [if_pos hp]
    have hfin2 : byLAns m t cuts = (0, designC m t cuts) := by unfold byLAns; rw [if_pos hp]
    have e1 : (designC m t cuts != 0) = true := by simp [hp]
    rw [hfin] at hall
    rw [hfin2]
    have Hp := Lib.hid (And.intro hp (And.intro hfin hfin2)); clear hp hfin hfin2
    generalize designC m t cuts = pc at *
    go_enter Tryz.func47, Tryz.ntmps47
    go_wp2_with fail
    rw [← hW1]
    refine hall.mono ?_
    rintro e' w2 ⟨v', rfl, hF, hb2⟩
    have HF := Lib.hid hF; clear hF
    clear hc01 hh01
    go_wp2_with fail
    go_ret2
    exact ⟨rfl, hB01.trans (hb2.mono (by omega))⟩
end Go.Proofs.YtmfgdoflddhngaaGreat

namespace Go.Proofs.YtmfgdoflddhngaaGreat
open Go.RowKit
set_option linter.unusedVariables false
set_option linter.unusedSimpArgs false

theorem count_split {p q : List Int → Bool} (h : ∀ k, q k = !p k) : ∀ ks : List (List Int), ks.countP p + ks.countP q = ks.length
  | [] => rfl
  | k :: ks => by
    have ih := count_split h ks
    rw [List.countP_cons, List.countP_cons, List.length_cons, h k]
    cases p k <;> simp <;> omega
/-- The law. -/
theorem opn_law {m : Mk} {t cuts : List (List Int)} (h : (opnAns m t cuts).2 = 0) :
    m.ok = true ∧ (opnAns m t cuts).1.sum = ((keysOf m).length : Int) ∧ (byLAns m t cuts).1 = ((keysOf m).length : Int) - geti (opnAns m t cuts).1 0 ∧ 0 < (opnAns m t cuts).1.length := by
  by_cases hp : designC m t cuts = 0
  · have hd := (design_fits hp).1.doors
    obtain ⟨D, hD⟩ : ∃ D, (getl t 0).length = D := ⟨_, rfl⟩
    obtain ⟨locks, hl⟩ : ∃ x, x = locksTo m.c.toNat t cuts D := ⟨_, rfl⟩
    have hll : locks.length = D := by rw [hl, locksTo_len]
    have e1 : opnAns m t cuts = (cntL locks (keysOf m) 0 (D + 1), 0) := by unfold opnAns; rw [if_neg (by rw [hp]; decide), hl, hD]
    have e2 : byLAns m t cuts = ((cntL locks (keysOf m) 1 D).sum, 0) := by unfold byLAns; rw [if_neg (by rw [hp]; decide), hl, hD]
    rw [e1, e2]
    refine ⟨(design_fits hp).1.ok, ?_, ?_, by show 0 < (cntL _ _ _ _).length; rw [cntL_len]; omega⟩
    · show (cntL _ _ _ _).sum = _
      rw [cnt_sum]
      congr 1
      rw [List.countP_eq_length]
      intro k _
      have := ndoors_le locks k
      simp; omega
    · show (cntL _ _ _ _).sum = _ - geti (cntL _ _ _ _) 0
      rw [cnt_sum, cntL_get (by omega)]
      have hs := count_split (p := fun k => decide (1 ≤ ndoors locks k ∧ ndoors locks k < 1 + D)) (q := fun k => decide (ndoors locks k = 0 + 0)) (fun k => by
        have := ndoors_le locks k
        rw [← decide_not, decide_eq_decide]; omega) (keysOf m)
      unfold cntN
      omega
  · exfalso
    unfold opnAns at h
    rw [if_pos hp] at h
    exact hp h
end Go.Proofs.YtmfgdoflddhngaaGreat
