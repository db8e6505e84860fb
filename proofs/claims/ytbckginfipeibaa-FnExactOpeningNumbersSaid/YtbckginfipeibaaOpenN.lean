/- How many keys open so many doors: the program's count. No conditions. -/
import Derived.Test.YtbckginfipeibaaSum
import Derived.Test.YtbckginfipeibaaMk
namespace Go.Proofs.Ytbckginfipeibaa
open Go.RowKit
set_option linter.unusedVariables false
set_option linter.unusedSimpArgs false

def allStep (s : List (List Int)) (k : List Int) : List (List Int) × Bool := (s ++ [k], true)
theorem all_run : ∀ (l s0 : List (List Int)), runL allStep s0 l = (s0 ++ l, true)
  | [], s0 => by simp [runL]
  | k :: l, s0 => by
    show (if (allStep s0 k).2 then runL allStep (allStep s0 k).1 l else allStep s0 k) = _
    simp only [allStep, if_true]
    rw [all_run l]
    simp
theorem enters_open : Enters 59 := fun args w => by kernel_rfl
set_option maxRecDepth 100000 in
set_option maxHeartbeats 1000000 in
theorem open1_any {S S' : Nat → Prop} (kv lv : Value) (key l : List Int) (locks : List (List (List Int))) (G OB LB : Nat) (w : World) (hk : V1 S w kv key) (hb : BlkI w G l) (hnd : ndoors locks key < l.length) (hl : l.length ≤ 1000) (hx : 0 ≤ geti l (ndoors locks key) ∧ geti l (ndoors locks key) ≤ 1000000)
    (hOB : w.cell? ⟨OB, 0, none⟩ = some (.slice (some ⟨G, 0, none⟩) l.length l.length)) (hLB : w.cell? ⟨LB, 0, none⟩ = some lv) (hlv : V3 S' w lv locks) (hll : locks.length ≤ 1000) (hlen : ∀ k, k < locks.length → key.length ≤ (getll locks k).length) :
    Calls Try.prog 59 #[kv, .pointer (some ⟨OB, 0, none⟩), .pointer (some ⟨LB, 0, none⟩)] w fun e w' => e = .returned (.bool true) ∧ ∃ wq, Below w.heap.size w wq ∧ w' = wq.setCell ⟨G, ndoors locks key, none⟩ (.int .i64 (geti l (ndoors locks key) + 1)) := by
  obtain ⟨ka, kc, rfl, hkm⟩ := hk.form
  obtain ⟨la, lc, rfl, hlm⟩ := hlv.form
  have hg := hb.cell hnd
  have hdr : Below w.heap.size w w.drew := (Below.refl _ _).drew
  obtain ⟨p, hp⟩ : ∃ p, ndoors locks key = p := ⟨_, rfl⟩
  rw [hp] at hg hx hnd ⊢
  obtain ⟨x, hxe⟩ : ∃ x, geti l p = x := ⟨_, rfl⟩
  rw [hxe] at hg hx ⊢
  have hpn : (0 : Int) ≤ (p : Int) := by omega
  have hp2 : (p : Int) < (l.length : Int) := by omega
  have hp3 : p ≤ 1000 := by omega
  have hw2 : IntKind.i64.wrap (x + 1) = x + 1 := IntWalk.i64_in _ (by omega)
  obtain ⟨N, hN⟩ : ∃ N, l.length = N := ⟨_, rfl⟩
  rw [hN] at hp2 hOB hl
  have Hh := Lib.hid (And.intro hp (And.intro hxe (And.intro hb (And.intro hlen (And.intro hnd hN))))); clear hp hxe hb hlen hnd hN
  have hlt := Hh.out.2.2.1.lt
  go_enter Try.func59, Try.ntmps59
  go_wp2_with fail
  go_region_law? (go_simp; go_at_call 60; refine (doorsOpened_any _ _ locks key _ (hlv.below hdr) (hk.below hdr) hll Hh.out.2.2.2.1).mono ?_; rintro e' wq ⟨vq, rfl, hFq, hbq⟩; obtain ⟨aq, cq, rfl, hqm⟩ := hFq.v1.form; rw [show (doorsOf locks key).length = p from Hh.out.1]; have hb0q : Below w.heap.size w wq := hdr.trans (hbq.mono (Nat.le_refl _)); have hcq : wq.cell? ⟨G, p, none⟩ = some (.int .i64 x) := cell_keep hg (hb0q.block _ (lt_of_cell hg)); have hoq := cell_keep hOB (hb0q.block _ (lt_of_cell hOB)); have hlq := cell_keep hLB (hb0q.block _ (lt_of_cell hLB)); have hfq := (Hh.out.2.2.1.keep (hb0q.block _ hlt)).frozen p; (try dsimp only))
  all_goals go_wp2
  all_goals go_ret
  all_goals exact ⟨rfl, wq, hb0q, rfl⟩
theorem opn_ok (m : Mk) (hm : m.ok = true) (locks : List (List (List Int))) (lv : Value) (N G OB LB : Nat) (W : World) (hN : locks.length < N) (hN2 : N ≤ 1000) (hne : G ≠ OB) (hLG : LB ≠ G ∧ LB ≠ OB) (hLB : W.cell? ⟨LB, 0, none⟩ = some lv)
    (hlv : V3 (fun b => ¬ (b = G ∨ b = OB)) W lv locks) (hlen : ∀ k, k < locks.length → (getll locks k).length = m.c.toNat) :
    VisOk m.c.toNat W (fun b => b = G ∨ b = OB) 59 #[.pointer (some ⟨OB, 0, none⟩), .pointer (some ⟨LB, 0, none⟩)] allStep [] (keysOf m) (PrfInv locks 0 N G OB) := by
  refine ⟨enters_open, ?_, ?_, ?_⟩
  · rintro s F w w' ⟨h1, h2, T, h3⟩ _ h4
    exact ⟨h1, h2.keep (h4 _ ((h1 G).2 (.inl rfl))), T, by rw [h4 _ ((h1 OB).2 (.inr rfl))]; exact h3⟩
  · rintro s F w ⟨h1, h2, T, h3⟩ b hb
    rcases (h1 b).1 hb with e | e
    · rw [e]; exact h2.lt
    · rw [e]; exact lt_of_heap h3
  · rintro s F S w v key done rest hL hr ⟨h1, h2, T, h3⟩ hchg hsub hV hS hkl
    rw [all_run, List.nil_append] at hr
    simp only [Prod.mk.injEq, and_true] at hr
    have hle := keysOf_length hm
    rw [hL] at hle
    have hsl : s.length = done.length := by rw [hr]
    have hnd := ndoors_le locks key
    have hcl := cntL_len locks s 0 N
    have hge := cntL_get (locks := locks) (ks := s) (lo := 0) (n := N) (j := ndoors locks key) (by omega)
    have hcn := cntN_le locks s (0 + ndoors locks key)
    simp at hle
    have hoc := cell_of_block h3 0
    simp at hoc
    refine (open1_any v lv key (cntL locks s 0 N) locks G OB LB w hV h2 (by rw [hcl]; omega) (by omega) (by rw [hge]; omega) (by rw [hcl]; exact hoc) (cell_keep hLB (hchg.block _ (lt_of_cell hLB) (by omega))) (hlv.mono (S' := fun _ => True) (fun _ _ _ => trivial) (hchg.keep fun b hb => hb)) (by omega) (fun k hk => by rw [hlen k hk]; omega)).mono ?_
    rintro e w' ⟨rfl, wq, hbq, rfl⟩
    refine ⟨F, rfl, ⟨h1, ?_, T, ?_⟩, (Chg.of_below (F := F) hbq).setCell (.inl ((h1 G).2 (.inl rfl))) _, fun b hb => .inl hb⟩
    · have := (h2.keep (hbq.block _ h2.lt)).set (ndoors locks key) (geti (cntL locks s 0 N) (ndoors locks key) + 1)
      have e := cntL_set (locks := locks) (ks := s) (k := key) (lo := 0) (n := N) (by omega) (by omega)
      rw [Nat.sub_zero] at e
      rw [e] at this
      exact this
    · rw [heap_setCell_other _ (fun e => hne e.symm)]; exact heap_below h3 hbq (lt_of_heap h3)

theorem op_keep {b b0 off0 : Nat} {cs : Array Value} {u : Value} {w2 w w' : World} (hb : b < w2.heap.size) (h : (∀ o, w2.cell? ⟨b, o, none⟩ = cs[o]?) ∧ w2.cell? ⟨b0, off0, none⟩ = some u ∧ Below w2.heap.size w2 w) (hk : Below w2.heap.size w2 w') :
    (∀ o, w'.cell? ⟨b, o, none⟩ = cs[o]?) ∧ w'.cell? ⟨b0, off0, none⟩ = some u ∧ Below w2.heap.size w2 w' :=
  ⟨fun o => by rw [(bcell hk).1 _ _ hb, h.1], cell_keep h.2.1 (hk.block _ (lt_of_cell h.2.1)), hk⟩
theorem op_below {b b0 off0 : Nat} {cs : Array Value} {u : Value} {w2 w : World} (h : (∀ o, w.cell? ⟨b, o, none⟩ = cs[o]?) ∧ w.cell? ⟨b0, off0, none⟩ = some u ∧ Below w2.heap.size w2 w) : Below w2.heap.size w2 w := h.2.2
theorem op_call {b b0 off0 : Nat} {cs : Array Value} {u : Value} {w2 w w' : World} (h : (∀ o, w.cell? ⟨b, o, none⟩ = cs[o]?) ∧ w.cell? ⟨b0, off0, none⟩ = some u ∧ Below w2.heap.size w2 w) (hb : Below w.heap.size w w') : Below w2.heap.size w2 w' := h.2.2.trans (hb.mono h.2.2.size)
theorem op_alloc {b b0 off0 : Nat} {cs : Array Value} {u : Value} {w2 w : World} {ob : Obj} (h : (∀ o, w.cell? ⟨b, o, none⟩ = cs[o]?) ∧ w.cell? ⟨b0, off0, none⟩ = some u ∧ Below w2.heap.size w2 w) : Below w2.heap.size w2 (w.alloc ob) := h.2.2.alloc h.2.2.size _
theorem op_set {b b0 off0 p q : Nat} {cs : Array Value} {u v : Value} {w2 w : World} (h : (∀ o, w.cell? ⟨b, o, none⟩ = cs[o]?) ∧ w.cell? ⟨b0, off0, none⟩ = some u ∧ Below w2.heap.size w2 w) (hp : w2.heap.size ≤ p) : Below w2.heap.size w2 (w.setCell ⟨p, q, none⟩ v) := h.2.2.setCell (p := ⟨p, q, none⟩) hp v
theorem op_al {w2 w : World} {ob : Obj} (h : Below w2.heap.size w2 w) : Below w2.heap.size w2 (w.alloc ob) := h.alloc h.size _
theorem op_st {w2 w : World} {p q : Nat} {v : Value} (h : Below w2.heap.size w2 w) (hp : w2.heap.size ≤ p) : Below w2.heap.size w2 (w.setCell ⟨p, q, none⟩ v) := h.setCell (p := ⟨p, q, none⟩) hp v
theorem hk_below {w w' : World} {o : Obj} {k : Nat} (h : w.heap[k]? = some o) (hb : Below w.heap.size w w') : w'.heap[k]? = some o := heap_below h hb (lt_of_heap h)
theorem hk_self {w : World} {o : Obj} {k : Nat} (h : k = w.heap.size) : (w.alloc o).heap[k]? = some o := by rw [h]; exact heap_alloc_self _ _
theorem hk_alloc {w : World} {o o' : Obj} {k : Nat} (h : w.heap[k]? = some o) : (w.alloc o').heap[k]? = some o := by
  have := ((Below.refl w.heap.size w).alloc (Nat.le_refl _) o').block k (lt_of_heap h)
  rw [this, h]
theorem hk_drew {w : World} {o : Obj} {k : Nat} (h : w.heap[k]? = some o) : w.drew.heap[k]? = some o := h
theorem hk_set {w : World} {o : Obj} {k b q : Nat} {v : Value} (h : w.heap[k]? = some o) (hne : k ≠ b) : (w.setCell ⟨b, q, none⟩ v).heap[k]? = some o := by rw [heap_setCell_other _ hne, h]
theorem hk_put {w : World} {k : Nat} {u v : Value} {T : TypeId} (h : w.heap[k]? = some (.cells #[u] T (0, 0))) : (w.setCell ⟨k, 0, none⟩ v).heap[k]? = some (.cells #[v] T (0, 0)) := by rw [heap_setCell_self h]; rfl
theorem hk_facts {w : World} {k : Nat} {u : Value} {T : TypeId} (h : w.heap[k]? = some (.cells #[u] T (0, 0))) :
    w.cell? ⟨k, 0, none⟩ = some u ∧ w.frozen? ⟨k, 0, none⟩ = false ∧ (∀ o1, (w.alloc o1).cell? ⟨k, 0, none⟩ = some u) ∧ (∀ o1, (w.alloc o1).frozen? ⟨k, 0, none⟩ = false) ∧ (∀ o1 o2, ((w.alloc o1).alloc o2).cell? ⟨k, 0, none⟩ = some u) ∧ (∀ o1 o2, ((w.alloc o1).alloc o2).frozen? ⟨k, 0, none⟩ = false) := by
  have g : ∀ (w : World), w.heap[k]? = some (.cells #[u] T (0, 0)) → w.cell? ⟨k, 0, none⟩ = some u ∧ w.frozen? ⟨k, 0, none⟩ = false := fun w h => ⟨cell_of_block h 0, frozen_of_block h 0⟩
  exact ⟨(g _ h).1, (g _ h).2, fun o1 => (g _ (hk_alloc h)).1, fun o1 => (g _ (hk_alloc h)).2, fun o1 o2 => (g _ (hk_alloc (hk_alloc h))).1, fun o1 o2 => (g _ (hk_alloc (hk_alloc h))).2⟩
theorem hk_eq {w0 w : World} {o' : Obj} {b : Nat} (hlt : b < w0.heap.size) (h : w.heap[b]? = w0.heap[b]?) : (w.alloc o').heap[b]? = w0.heap[b]? := by
  obtain ⟨x, hx⟩ : ∃ x, w0.heap[b]? = some x := ⟨_, Array.getElem?_eq_getElem hlt⟩
  rw [hx] at h ⊢; exact hk_alloc h
theorem hk_eqs {w0 w : World} {b p q : Nat} {v : Value} (hne : b ≠ p) (h : w.heap[b]? = w0.heap[b]?) : (w.setCell ⟨p, q, none⟩ v).heap[b]? = w0.heap[b]? := by rw [heap_setCell_other _ hne, h]
theorem opn_end (m : Mk) (hm : m.ok = true) (locks : List (List (List Int))) (D : Nat) (hll : locks.length = D) (hD : D ≤ 12) (hlen : ∀ k, k < locks.length → (getll locks k).length = m.c.toNat) (zs : Array Value) (hzs : zs = madeCells (Value.int .i64 0).cells (((D : Int) + 1).toNat * 1)) (lv : Value)
    {w : World} {G OB LB : Nat} {T T' : TypeId} {Q : Ending → World → Prop} (hO : w.heap[OB]? = some (.cells #[.slice (some ⟨G, 0, none⟩) (D + 1) (D + 1)] T (0, 0))) (hG : w.heap[G]? = some (.cells zs 2 (0, 0))) (hL : w.heap[LB]? = some (.cells #[lv] T' (0, 0)))
    (hne : G ≠ OB ∧ LB ≠ G ∧ LB ≠ OB) (hlv : V3 (fun b => ¬ (b = G ∨ b = OB)) w lv locks)
    (hk : ∀ w', w'.cell? ⟨OB, 0, none⟩ = some (.slice (some ⟨G, 0, none⟩) (D + 1) (D + 1)) → BlkI w' G (cntL locks (keysOf m) 0 (D + 1)) → Chg (fun b => b = G ∨ b = OB) w w' → Q (.returned undef) w') :
    Calls Try.prog 58 #[.agg #[.int .i64 m.c, .int .i64 m.d, .int .i64 m.s, .int .i64 m.e, .int .i64 m.l], .slice none 0 0, .nilFunc, .func (.func 59) #[] #[.pointer (some ⟨OB, 0, none⟩), .pointer (some ⟨LB, 0, none⟩)]] w Q := by
  have hblk : BlkI w G (cntL locks [] 0 (D + 1)) := by
    rw [cntL_nil]
    refine blk_made hG ?_
    rw [hzs]
    congr 2
  have hI : PrfInv locks 0 (D + 1) G OB [] (fun b => b = G ∨ b = OB) w := ⟨fun b => Iff.rfl, hblk, _, hO⟩
  have hV := opn_ok m hm locks lv (D + 1) G OB LB w (by omega) (by omega) hne.1 hne.2 (cell_of_block hL 0) hlv hlen
  rw [← keysA_all m] at hV
  refine (eachKey_any hm w hV (.inl ⟨rfl, fun _ _ => rfl⟩) hI).mono ?_
  rintro e w' ⟨F', ⟨hF', hblk', T2, hO'⟩, hchg, hsub, rfl⟩
  rw [show genF m (fun _ _ => true) [] false m.c.toNat [] = keysOf m from keysA_all m, all_run, List.nil_append] at hblk'
  exact hk w' (cell_of_block hO' 0) hblk' hchg
/-- How many keys open so many doors. -/
def opnAns (m : Mk) (t cuts : List (List Int)) : List Int × Int :=
  if designC m t cuts ≠ 0 then ([], designC m t cuts) else (cntL (locksTo m.c.toNat t cuts (getl t 0).length) (keysOf m) 0 ((getl t 0).length + 1), 0)
theorem opnAns_few (m : Mk) (t cuts : List (List Int)) : Few (opnAns m t cuts).1 := by
  unfold opnAns
  split
  · exact ⟨by simp, fun x hx => by simp at hx⟩
  · rename_i hp
    have hf := (design_fits (Classical.not_not.1 hp)).1
    have hkl := keysOf_length hf.ok
    have hdoors := hf.doors
    exact cntL_few (by omega) (by omega)
theorem opnAns_len (m : Mk) (t cuts : List (List Int)) : (opnAns m t cuts).1.length ≤ 1048576 := Nat.le_trans (opnAns_few m t cuts).1 (by omega)
theorem F1.nil1 {B : Nat} {w : World} : F1 B w (.slice none 0 0) [] := ⟨0, ⟨none, 0, rfl, Nat.le_refl _, Nat.zero_le _, fun hn => absurd rfl hn⟩, fun hn => absurd rfl hn⟩
set_option maxRecDepth 100000 in
set_option maxHeartbeats 1000000 in
theorem OpeningNumbers_any {S S' : Nat → Prop} (m : Mk) (u v : Value) (t cuts : List (List Int)) (W : World) (h : V2 S W u t) (hc : V2 S' W v cuts) :
    Calls Try.prog 18 #[.agg #[.int .i64 m.c, .int .i64 m.d, .int .i64 m.s, .int .i64 m.e, .int .i64 m.l, u], v] W fun e' w' => ∃ v', e' = .returned (.tuple #[v', .int .i64 (opnAns m t cuts).2]) ∧ F1 W.heap.size w' v' (opnAns m t cuts).1 ∧ Below W.heap.size W w' := by
  obtain ⟨a, c, rfl, hmx⟩ := h.form
  obtain ⟨a', c', rfl, hmx'⟩ := hc.form
  obtain ⟨W1, hW1, hB01, hz01, HZ01, hc01, hh01⟩ := box_facts W #[.int .i64 m.c, .int .i64 m.d, .int .i64 m.s, .int .i64 m.e, .int .i64 m.l, .slice a t.length c] 34
  have hV1 := (h.below hB01).any
  have hC1 := (hc.below hB01).any
  have hcode := designCode_any m _ _ t cuts W1 hV1 hC1
  by_cases hp : designC m t cuts = 0
  · rw [hp] at hcode
    have hf := (design_fits hp).1
    have hmc := mc_nat hf.ok
    have hdoors := hf.doors
    have hkl := keysOf_length hf.ok
    have hol := outsOf_length cuts (keysOf m)
    obtain ⟨locks, hlocks⟩ : ∃ x, x = locksTo m.c.toNat t cuts (getl t 0).length := ⟨_, rfl⟩
    obtain ⟨D, hD⟩ : ∃ D, (getl t 0).length = D := ⟨_, rfl⟩
    have hll : locks.length = D := by rw [hlocks, locksTo_len, hD]
    have hrows := hf.rows
    obtain ⟨b0, off0, a0, c0, rfl, _, hcc0, hr0⟩ := hV1.cell (k := 0) (by omega)
    simp only [Nat.add_zero] at hcc0
    have hfin : opnAns m t cuts = (cntL locks (keysOf m) 0 (D + 1), 0) := by unfold opnAns; rw [if_neg (by rw [hp]; decide), ← hlocks, hD]
    rw [hfin]
    rw [hD] at hdoors hcc0
    have hpl := partLocks_any (S := fun _ => True) (S' := fun _ => True) m (.slice (some ⟨b0, off0, none⟩) t.length c) (.slice a' cuts.length c') t cuts m.c.toNat
    rw [← hlocks] at hpl
    have Hf := Lib.hid (And.intro hf (And.intro hmc (And.intro hpl hr0))); clear hf hmc hpl hr0 hol hkl
    have hlen : ∀ k, k < locks.length → (getll locks k).length = m.c.toNat := fun k hk => by rw [hlocks]; rw [hlocks, locksTo_len] at hk; exact lock_len hk
    have Hlen := Lib.hid hlen; clear hlen
    have Hp := Lib.hid (And.intro hp (And.intro hfin (And.intro hlocks (And.intro hD hll)))); clear hp hfin hlocks hD hll
    have Hcode := Lib.hid hcode; clear hcode
    go_enter Try.func18, Try.ntmps18
    go_wp2_with fail
    rw [← hW1]
    refine Hcode.out.mono ?_
    rintro e' w2 ⟨rfl, hb2⟩
    have hx2 : ∀ o, w2.cell? ⟨W.heap.size, o, none⟩ = (#[.int .i64 m.c, .int .i64 m.d, .int .i64 m.s, .int .i64 m.e, .int .i64 m.l, .slice (some ⟨b0, off0, none⟩) t.length c] : Array Value)[o]? := fun o => by rw [(bcell hb2).1 _ _ hz01, hc01]
    have hz2 : W.heap.size < w2.heap.size := by have := hb2.size; omega
    have hcc2 := cell_keep hcc0 (hb2.block _ (lt_of_cell hcc0))
    have Hcc0 := Lib.hid hcc0; clear hc01 hh01 hcc0
    have h0t : (0 : Int) < (t.length : Int) := by omega
    have hwD : IntKind.i64.wrap ((D : Int) + 1) = (D : Int) + 1 := IntWalk.i64_in _ (by omega)
    have hS2 : (∀ o, w2.cell? ⟨W.heap.size, o, none⟩ = (#[.int .i64 m.c, .int .i64 m.d, .int .i64 m.s, .int .i64 m.e, .int .i64 m.l, .slice (some ⟨b0, off0, none⟩) t.length c] : Array Value)[o]?) ∧ w2.cell? ⟨b0, off0, none⟩ = some (.slice a0 D c0) ∧ Below w2.heap.size w2 w2 := ⟨hx2, hcc2, Below.refl _ _⟩
    have h0t2 : 0 < t.length := by omega
    obtain ⟨zs, hzs⟩ : ∃ zs : Array Value, zs = madeCells (Value.int .i64 0).cells (((D : Int) + 1).toNat * 1) := ⟨_, rfl⟩
    have hmk : ∀ w : World, (Instr.makeSlice 29 (.int .i64 ((D : Int) + 1)) (.int .i64 ((D : Int) + 1))).run Try.prog w = .ok (.slice (some ⟨w.heap.size, 0, none⟩) (D + 1) (D + 1)) (w.alloc (.cells zs 2)) := fun w => by
      obtain ⟨i0, gi, gz0, gz1, gz2⟩ := info_parts inf_int
      have := run_make (P := Try.prog) w 29 2 i0 _ Try.underlying29 gi gz0 .i64 .i64 ((D : Int) + 1) ((D : Int) + 1) (by omega) (Int.le_refl _) (by rw [gz2]; omega) (by omega)
      rw [gz1, ← hzs] at this
      exact this
    have Hzs := Lib.hid hzs; clear hzs
    go_wp2_with fail
    go_region_held3 (fun w' => (∀ o, w'.cell? ⟨W.heap.size, o, none⟩ = (#[.int .i64 m.c, .int .i64 m.d, .int .i64 m.s, .int .i64 m.e, .int .i64 m.l, .slice (some ⟨b0, off0, none⟩) t.length c] : Array Value)[o]?) ∧ w'.cell? ⟨b0, off0, none⟩ = some (.slice a0 D c0) ∧ Below w2.heap.size w2 w')
      (exact op_keep hz2 hS2 (by repeat (first | with_reducible refine op_al ?_ | with_reducible refine op_st ?_ (by first | exact Nat.le_refl _ | exact Nat.le_add_right _ _ | exact Nat.le_add_right _ 2 | exact hBL2.size | exact Nat.le_trans hBL2.size (Nat.le_add_right _ _) | exact Nat.le_trans hBL2.size (Nat.le_add_right _ 2)) | with_reducible exact hBL2 | with_reducible refine Below.drew ?_ | with_reducible exact Below.refl _ _)))
      (first | (go_at_call 57; refine (Hf.out.2.2.1 _ Hf.out.1 Hf.out.2.1 (hV1.below (hb2.trans ((op_below (by assumption)).mono hb2.size))) (hC1.below (hb2.trans ((op_below (by assumption)).mono hb2.size)))).mono ?_; rintro e' wL ⟨lv, rfl, hlv, hbL⟩; obtain ⟨la, lc, rfl, hlm⟩ := hlv.form; have hBL2 := op_call (w2 := w2) (by assumption) hbL; have hzL := hbL.size; (try simp only [World.size_alloc, World.size_setCell, World.size_drew] at hzL); (try (have hob0 : wL.heap[w2.heap.size]? = some _ := hk_below (by repeat (first | with_reducible apply hk_drew | (with_reducible apply hk_self; (simp only [World.size_alloc, World.size_drew]; done)) | with_reducible apply hk_alloc)) hbL; obtain ⟨hp0a, hp0b, hp0c, hp0d, hp0e, hp0f⟩ := hk_facts hob0)); (try (have hob1 : wL.heap[w2.heap.size + 1]? = some _ := hk_below (by repeat (first | with_reducible apply hk_drew | (with_reducible apply hk_self; (simp only [World.size_alloc, World.size_drew]; done)) | with_reducible apply hk_alloc)) hbL; obtain ⟨hp1a, hp1b, hp1c, hp1d, hp1e, hp1f⟩ := hk_facts hob1)); (try (have hob2 : wL.heap[w2.heap.size + 1 + 1]? = some _ := hk_below (by repeat (first | with_reducible apply hk_drew | (with_reducible apply hk_self; (simp only [World.size_alloc, World.size_drew]; done)) | with_reducible apply hk_alloc)) hbL; obtain ⟨hp2a, hp2b, hp2c, hp2d, hp2e, hp2f⟩ := hk_facts hob2))))
    all_goals
      have HS := Lib.hid (op_below (w2 := w2) (by assumption))
      go_wp2_with fail
      apply opn_end m Hf.out.1.ok locks D Hp.out.2.2.2.2 hdoors.2 Hlen.out zs Hzs.out (.slice la locks.length lc)
      case hO => repeat' (first | with_reducible apply hk_drew | with_reducible apply hk_put | (with_reducible apply hk_self; simp only [World.size_alloc, World.size_setCell, World.size_drew]; done) | with_reducible apply hk_alloc | (with_reducible apply hk_set; case hne => omega) | with_reducible apply hk_below _ hbL)
      case hG => repeat' (first | with_reducible apply hk_drew | (with_reducible apply hk_self; simp only [World.size_alloc, World.size_setCell, World.size_drew]; done) | with_reducible apply hk_alloc | (with_reducible apply hk_set; case hne => omega) | with_reducible apply hk_below _ hbL)
      case hL => repeat' (first | with_reducible apply hk_drew | with_reducible apply hk_put | (with_reducible apply hk_self; simp only [World.size_alloc, World.size_setCell, World.size_drew]; done) | with_reducible apply hk_alloc | (with_reducible apply hk_set; case hne => omega) | with_reducible apply hk_below _ hbL)
      case hne => exact ⟨by omega, by omega, by omega⟩
      case hlv =>
        refine V3.mono (w := wL) hlv (fun b hb hlt => ?_) (fun b hb hlt => ?_)
        · (try simp only [World.size_alloc, World.size_setCell, World.size_drew] at hb); omega
        · (try simp only [World.size_alloc, World.size_setCell, World.size_drew] at hb); repeat (first | rfl | (with_reducible apply hk_eq hlt) | (with_reducible apply hk_eqs; case hne => omega))
      case hk =>
        intro w' h1 h2 h3
        have H3 := Lib.hid (And.intro h2 h3); clear h2 h3
        (try dsimp only)
        go_wp2_with fail
        go_ret2
        have hX := H3.out.1.x1 (off := 0) (Nat.zero_le _) (by rw [cntL_len]; omega)
        rw [List.drop_zero, Nat.sub_zero, cntL_len] at hX
        exact ⟨_, rfl, ⟨_, hX, fun _ => by omega⟩, hB01.trans ((hb2.trans ((HS.out.trans (H3.out.2.to_below (fun i hi => by rcases hi with h | h <;> omega) HS.out.size)).mono hb2.size)).mono (by omega))⟩
  · have hfin : opnAns m t cuts = ([], designC m t cuts) := by unfold opnAns; rw [if_pos hp]; (try rfl)
    have e1 : (designC m t cuts != 0) = true := by simp [hp]
    rw [hfin]
    have Hp := Lib.hid (And.intro hp hfin); clear hp hfin
    generalize designC m t cuts = pc at *
    go_enter Try.func18, Try.ntmps18
    go_wp2_with fail
    rw [← hW1]
    refine hcode.mono ?_
    rintro e' w2 ⟨rfl, hb2⟩
    clear hc01 hh01
    go_wp2_with fail
    go_ret2
    exact ⟨_, rfl, F1.nil1, hB01.trans (hb2.mono (by omega))⟩
end Go.Proofs.Ytbckginfipeibaa
