/- How many outsiders open so many doors: as the program counts them. No conditions. -/
import Derived.Laws.OwnMore
import Derived.Test.YtbckginfipeibaaGreatOuts
namespace Go.Proofs.YtbckginfipeibaaGreat
open Go.RowKit
set_option linter.unusedVariables false
set_option linter.unusedSimpArgs false

/-- Block G holds the numbers l and nothing else. -/
def BlkI (w : World) (G : Nat) (l : List Int) : Prop := ∃ T, w.heap[G]? = some (.cells (l.map (Value.int .i64)).toArray T (0, 0))
theorem BlkI.cell {w : World} {G k : Nat} {l : List Int} (h : BlkI w G l) (hk : k < l.length) : w.cell? ⟨G, k, none⟩ = some (.int .i64 (geti l k)) := by
  obtain ⟨T, h⟩ := h
  rw [cell_of_block h, geti_eq hk]
  simp [hk]
theorem BlkI.frozen {w : World} {G : Nat} {l : List Int} (h : BlkI w G l) (k : Nat) : w.frozen? ⟨G, k, none⟩ = false := by
  obtain ⟨T, h⟩ := h; exact frozen_of_block h k
theorem BlkI.set {w : World} {G : Nat} {l : List Int} (h : BlkI w G l) (k : Nat) (x : Int) : BlkI (w.setCell ⟨G, k, none⟩ (.int .i64 x)) G (l.set k x) := by
  obtain ⟨T, h⟩ := h
  refine ⟨T, ?_⟩
  rw [heap_setCell_self h]
  congr 2
  apply Array.ext'
  simp [List.map_set]
theorem BlkI.keep {w w' : World} {G : Nat} {l : List Int} (h : BlkI w G l) (hk : w'.heap[G]? = w.heap[G]?) : BlkI w' G l := by
  obtain ⟨T, h⟩ := h; exact ⟨T, by rw [hk]; exact h⟩
theorem BlkI.lt {w : World} {G : Nat} {l : List Int} (h : BlkI w G l) : G < w.heap.size := by
  obtain ⟨T, h⟩ := h; exact lt_of_heap h
theorem BlkI.x1 {w : World} {G off : Nat} {l : List Int} (h : BlkI w G l) (ho : off ≤ l.length) (hl : l.length ≤ 1000000) : X1 w (.slice (some ⟨G, off, none⟩) (l.length - off) (l.length - off)) (l.drop off) G := by
  obtain ⟨T, h⟩ := h
  refine ⟨_, l.length - off, by rw [List.length_drop], by rw [List.length_drop]; exact Nat.le_refl _, by unfold maxLen; omega, fun _ => ⟨off, _, T, rfl, h, fun k hk => ?_⟩⟩
  rw [List.length_drop] at hk
  have e : geti (l.drop off) k = geti l (off + k) := by simp [geti]
  rw [e, geti_eq (by omega)]
  simp [show off + k < l.length from by omega]
theorem blk_made {w : World} {G : Nat} {cs : Array Value} {T : TypeId} {n : Nat} (h : w.heap[G]? = some (.cells cs T (0, 0))) (hc : cs.toList = (madeCells (Value.int .i64 0).cells (n * 1)).toList) : BlkI w G (List.replicate n 0) := by
  refine ⟨T, ?_⟩
  rw [h]
  congr 2
  apply Array.ext'
  rw [hc, Nat.mul_one, show (Value.int .i64 0).cells = #[Value.int .i64 0] from rfl, toList_madeCells_one]
  simp
theorem cntL_set {locks : List (List (List Int))} {ks : List (List Int)} {k : List Int} {lo n : Nat} (h1 : lo ≤ ndoors locks k) (h2 : ndoors locks k < lo + n) :
    (cntL locks ks lo n).set (ndoors locks k - lo) (geti (cntL locks ks lo n) (ndoors locks k - lo) + 1) = cntL locks (ks ++ [k]) lo n := by
  apply List.ext_getElem (by simp [cntL])
  intro i g1 g2
  have hi : i < n := by simpa [cntL] using g2
  rw [List.getElem_set]
  by_cases e : ndoors locks k - lo = i
  · rw [if_pos e, e, cntL_get hi]
    simp only [cntL, List.getElem_map, List.getElem_range, cntN_snoc]
    rw [if_pos (by omega)]; simp
  · rw [if_neg e]
    simp only [cntL, List.getElem_map, List.getElem_range, cntN_snoc]
    rw [if_neg (by omega)]; simp
def keepStep (s : List (List Int)) (k : List Int) (ds : List Int) : List (List Int) × Bool := (s ++ [k], true)
theorem keep_run (cuts : List (List Int)) (locks : List (List (List Int))) : ∀ (l s0 : List (List Int)), runL (outStep keepStep cuts locks) s0 l = (s0 ++ outsOf cuts l, true)
  | [], s0 => by simp [runL, outsOf]
  | k :: l, s0 => by
    have e : (outStep keepStep cuts locks s0 k) = (if hasL cuts k = true then s0 else s0 ++ [k], true) := by
      unfold outStep keepStep; split <;> rfl
    simp only [runL, e, if_true]
    rw [keep_run cuts locks l]
    unfold outsOf
    rw [List.filter_cons]
    cases hasL cuts k <;> simp
theorem outsOf_length (cuts ks : List (List Int)) : (outsOf cuts ks).length ≤ ks.length := List.length_filter_le _ _

/-- The counts in block G, seen through the cell in block OB. -/
def PrfInv (locks : List (List (List Int))) (lo N G OB : Nat) (s : List (List Int)) (F : Nat → Prop) (w : World) : Prop :=
  (∀ b, F b ↔ b = G ∨ b = OB) ∧ BlkI w G (cntL locks s lo N) ∧ ∃ T, w.heap[OB]? = some (.cells #[.slice (some ⟨G, 0, none⟩) N N] T (0, 0))
theorem enters_prof : Enters 74 := fun args w => by kernel_rfl
theorem prof1_any {S : Nat → Prop} (kv dv : Value) (ds : List Int) (l : List Int) (G OB : Nat) (T : TypeId) (w : World) (hd : V1 S w dv ds) (hb : BlkI w G l) (hlt : ds.length < l.length) (hl : l.length ≤ 1000) (hx : 0 ≤ geti l ds.length ∧ geti l ds.length ≤ 1000000)
    (hOB : w.heap[OB]? = some (.cells #[.slice (some ⟨G, 0, none⟩) l.length l.length] T (0, 0))) :
    Calls Tryz.prog 74 #[kv, dv, .pointer (some ⟨OB, 0, none⟩)] w fun e w' => e = .returned (.bool true) ∧ w' = w.setCell ⟨G, ds.length, none⟩ (.int .i64 (geti l ds.length + 1)) := by
  obtain ⟨da, dc, rfl, hdm⟩ := hd.form
  have hc := cell_of_block hOB 0
  have hg := hb.cell hlt
  have hf := hb.frozen ds.length
  simp at hc
  obtain ⟨x, hxe⟩ : ∃ x, geti l ds.length = x := ⟨_, rfl⟩
  rw [hxe] at hg hx ⊢
  clear hOB hb hxe
  go_enter Tryz.func74, Tryz.ntmps74
  go_wp2_with fail
  go_ret
  exact ⟨rfl, rfl⟩
theorem prof_ok (m : Mk) (hm : m.ok = true) (cuts : List (List Int)) (locks : List (List (List Int))) (N G OB : Nat) (W : World) (hN : locks.length < N) (hN2 : N ≤ 1000) (hne : G ≠ OB) :
    VisD m.c.toNat W (fun b => b = G ∨ b = OB) 74 #[.pointer (some ⟨OB, 0, none⟩)] keepStep [] (keysOf m) cuts locks (PrfInv locks 0 N G OB) := by
  refine ⟨enters_prof, ?_, ?_, ?_⟩
  · rintro s F w w' ⟨h1, h2, T, h3⟩ _ h4
    exact ⟨h1, h2.keep (h4 _ ((h1 G).2 (.inl rfl))), T, by rw [h4 _ ((h1 OB).2 (.inr rfl))]; exact h3⟩
  · rintro s F w ⟨h1, h2, T, h3⟩ b hb
    rcases (h1 b).1 hb with e | e
    · rw [e]; exact h2.lt
    · rw [e]; exact lt_of_heap h3
  · rintro s F S S2 w v dv key done rest hL hr ⟨h1, h2, T, h3⟩ hchg hsub hV hS hD hS2 hlen
    rw [keep_run, List.nil_append] at hr
    simp only [Prod.mk.injEq, and_true] at hr
    have hle := keysOf_length hm
    rw [hL] at hle
    have hol := outsOf_length cuts done
    rw [hr] at hol
    have hnd := ndoors_le locks key
    have hcl := cntL_len locks s 0 N
    have hge := cntL_get (locks := locks) (ks := s) (lo := 0) (n := N) (j := ndoors locks key) (by omega)
    have hcn := cntN_le locks s (0 + ndoors locks key)
    simp at hle
    refine (prof1_any v dv (doorsOf locks key) (cntL locks s 0 N) G OB T w hD h2 (by rw [hcl]; show ndoors locks key < N; omega) (by omega) (by show 0 ≤ geti _ (ndoors locks key) ∧ geti _ (ndoors locks key) ≤ _; rw [hge]; omega) (by rw [hcl]; exact h3)).mono ?_
    rintro e w' ⟨rfl, rfl⟩
    refine ⟨F, rfl, ⟨h1, ?_, T, ?_⟩, (Chg.refl _ _).setCell (.inl ((h1 G).2 (.inl rfl))) _, fun b hb => .inl hb⟩
    · have := h2.set (ndoors locks key) (geti (cntL locks s 0 N) (ndoors locks key) + 1)
      have e := cntL_set (locks := locks) (ks := s) (k := key) (lo := 0) (n := N) (by omega) (by omega)
      rw [Nat.sub_zero] at e
      rw [e] at this
      exact this
    · rw [heap_setCell_other _ (fun e => hne e.symm)]; exact h3

set_option maxRecDepth 100000 in
theorem profileOf_any {S S' : Nat → Prop} (m : Mk) (u v : Value) (t cuts : List (List Int)) (n : Nat) (W : World) (hf : Fits m t cuts) (hn : (n : Int) = m.c) (h : V2 S W u t) (hc : V2 S' W v cuts) :
    Calls Tryz.prog 52 #[.agg #[.int .i64 m.c, .int .i64 m.d, .int .i64 m.s, .int .i64 m.e, .int .i64 m.l, u], v] W fun e' w' => ∃ G : Nat, e' = .returned (.slice (some ⟨G, 0, none⟩) ((getl t 0).length + 1) ((getl t 0).length + 1)) ∧ W.heap.size ≤ G ∧
      BlkI w' G (cntL (locksTo n t cuts (getl t 0).length) (outsOf cuts (keysOf m)) 0 ((getl t 0).length + 1)) ∧ Below W.heap.size W w' := by
  obtain ⟨a, c, rfl, hmx⟩ := h.form
  obtain ⟨a', c', rfl, hmx'⟩ := hc.form
  have hrows := hf.rows
  have hdoors := hf.doors
  obtain ⟨W1, hW1, hB01, hz01, HZ01, hc01, hh01⟩ := box_facts W #[.int .i64 m.c, .int .i64 m.d, .int .i64 m.s, .int .i64 m.e, .int .i64 m.l, .slice a t.length c] 33
  have hV1 := (h.below hB01).old
  have hC1 := (hc.below hB01).old
  obtain ⟨b0, off0, a0, c0, rfl, _, hcc0, hr0⟩ := h.cell (k := 0) (by omega)
  simp only [Nat.add_zero] at hcc0
  have Hf := Lib.hid (And.intro hf hn); clear hf hn
  have hN : (getl t 0).length + 1 ≤ 13 := by omega
  obtain ⟨D, hD⟩ : ∃ D, (getl t 0).length = D := ⟨_, rfl⟩
  rw [hD] at hcc0 hdoors hN ⊢
  have hcA : ∀ o1, (W.alloc o1).cell? ⟨b0, off0, none⟩ = some (.slice a0 D c0) := fun o1 => cell_keep hcc0 ((show Below W.heap.size W (W.alloc o1) from by go_grown).block _ (lt_of_cell hcc0))
  obtain ⟨locks, hlocks⟩ : ∃ x, x = locksTo n t cuts D := ⟨_, rfl⟩
  have hll : locks.length = D := by rw [hlocks, locksTo_len]
  rw [← hlocks]
  have HD := Lib.hid (And.intro hD (And.intro hlocks hll)); clear hD hlocks hll hcc0 hr0
  go_enter Tryz.func52, Tryz.ntmps52
  go_wp2_with (at_make; refine wp_mk _ rfl _ _ 44 rfl 2 (.int .i64 0) 1 8 Tryz.underlying44 inf_int (D + 1) rfl rfl (by omega) (by omega) ?_; intro w2 cs0 hh0 hs0 ht0 hB0 hsz0; rw [← hW1] at hh0 hB0 hsz0; have hx2 : ∀ o, w2.cell? ⟨W.heap.size, o, none⟩ = (#[.int .i64 m.c, .int .i64 m.d, .int .i64 m.s, .int .i64 m.e, .int .i64 m.l, .slice (some ⟨b0, off0, none⟩) t.length c] : Array Value)[o]? := (fun o => by rw [(bcell hB0).1 _ _ hz01, hc01]); have hz2 : W.heap.size < w2.heap.size := (by have := hB0.size; omega))
  have hblk := blk_made hh0 ht0
  rw [HZ01.out] at hblk
  obtain ⟨w3, hw3, hb23, hz23, HZ23, hc23, hh23⟩ := box_facts w2 #[.slice (some ⟨W.heap.size + 1, 0, none⟩) (D + 1) (D + 1)] 44
  rw [← hw3]
  have Hw3 := Lib.hid hw3; clear hw3
  have hB13 := hB0.trans (hb23.mono hB0.size)
  have hb2 := hblk.lt
  have hI : PrfInv locks 0 (D + 1) (W.heap.size + 1) w2.heap.size [] (fun b => b = W.heap.size + 1 ∨ b = w2.heap.size) w3 := ⟨fun b => Iff.rfl, by rw [cntL_nil]; exact hblk.keep (hb23.block _ hb2), _, hh23⟩
  have hV3 : V2 (fun b => ¬ (b = W.heap.size + 1 ∨ b = w2.heap.size)) w3 (.slice (some ⟨b0, off0, none⟩) t.length c) t := (hV1.below hB13).mono (fun b h1 h2 => by have h1' : b < W1.heap.size := h1; have := HZ01.out; omega) (fun _ _ _ => rfl)
  have hC3 : V2 (fun b => ¬ (b = W.heap.size + 1 ∨ b = w2.heap.size)) w3 (.slice a' cuts.length c') cuts := (hC1.below hB13).mono (fun b h1 h2 => by have h1' : b < W1.heap.size := h1; have := HZ01.out; omega) (fun _ _ _ => rfl)
  have hok := Hf.out.1.ok
  have hlk : locksTo n t cuts (getl t 0).length = locks := by rw [HD.out.1]; exact HD.out.2.1.symm
  have hvd : VisD m.c.toNat w3 (fun b => b = W.heap.size + 1 ∨ b = w2.heap.size) 74 #[.pointer (some ⟨w2.heap.size, 0, none⟩)] keepStep [] (keysOf m) cuts (locksTo n t cuts (getl t 0).length) (PrfInv locks 0 (D + 1) (W.heap.size + 1) w2.heap.size) := by
    rw [hlk]; exact prof_ok m hok cuts locks (D + 1) (W.heap.size + 1) w2.heap.size w3 (by have := HD.out.2.2; omega) (by omega) (by omega)
  have hall := eachOutsider_any (.slice (some ⟨b0, off0, none⟩) t.length c) (.slice a' cuts.length c') Hf.out.1 Hf.out.2 w3 hvd hI hV3 hC3
  rw [hlk, keep_run, List.nil_append] at hall
  refine hall.mono ?_
  rintro e' w4 ⟨F', ⟨hF', hblk4, T4, hO4⟩, hchg, hsub, rfl⟩
  have hc4 := cell_of_block hO4 0
  simp at hc4
  have Hfin := Lib.hid (And.intro hblk4 hchg); clear hblk4 hchg hall hvd hI hx2 hO4
  go_wp2_with fail
  go_ret
  exact ⟨_, rfl, by omega, Hfin.out.1, hB01.trans ((hB13.trans (Hfin.out.2.to_below (fun i hi => by have := HZ01.out; omega) hB13.size)).mono (by omega))⟩
end Go.Proofs.YtbckginfipeibaaGreat
