/- What an argument that reads as data looks like in memory. No conditions. -/
import Derived.ProofKit
import Derived.OpenShut
import Derived.Deep.Matrix
import Derived.Carry
import Derived.JoinedOf
import Derived.ChangeSame
import Derived.Test.YtikdbjaimcciiaaGreatMLib
namespace Go.Proofs.YtikdbjaimcciiaaGreat
open Go.ChangeShapes Go.WideShapes Go.ChangeAt Go.RowKit Go.Deep
set_option linter.unusedVariables false
set_option linter.unusedSimpArgs false

def i64ok (n : Int) : Prop := -9223372036854775808 ≤ n ∧ n ≤ 9223372036854775807
theorem i64_of_wf {n : Int} (h : (Lit.int .i64 n).wf = true) : i64ok n := by
  simpa [Lit.wf, IntKind.min, IntKind.max, IntKind.signed, IntKind.bits, i64ok] using h
theorem i64_wf {n : Int} (h : i64ok n) : (Lit.int .i64 n).wf = true := by
  simpa [Lit.wf, IntKind.min, IntKind.max, IntKind.signed, IntKind.bits, i64ok] using h

section
variable {H : Type} {enc : TypeId × Value → H} {P : Program} {w : World} {held : Bool}

/-- The blocks that are there. -/
def Old (w : World) : Nat → Prop := fun b => b < w.heap.size

theorem addr_of_cell {a : Addr} {i : Nat} {v : Value} (h : w.cell? (a.add i) = some v) : i = 0 → a = ⟨a.block, a.off, none⟩ := by
  intro h0; subst h0
  obtain ⟨b, o, s⟩ := a
  simp only [World.cell?, Addr.add, if_true] at h
  split at h
  · cases s with
    | none => rfl
    | some s => simp at h
  · cases h

theorem open_V1 {t e : TypeId} {fuel : Nat} {cs : List Value} {x : DataW H × List MemPlace} (ht : P.underlying t = some (.slice e)) (he : P.underlying e = some (.int .i64)) (ce : P.cellsOf e = 1)
    (h : DataW.trod enc P w 0 (fun _ => true) held fuel t cs = some x) : ∃ v l, cs = [v] ∧ V1 (Old w) w v l ∧ ∀ n ∈ l, i64ok n := by
  rcases open_ints ht he ce h with ⟨rfl, _⟩ | ⟨a, len, cap, zs, rfl, _, hl, hm, hz, _, hcell, hwz⟩
  · exact ⟨_, [], rfl, ⟨none, 0, rfl, Nat.le_refl _, Nat.zero_le _, fun k hk => absurd hk (by simp)⟩, by simp⟩
  · simp only [if_true] at hz
    have hlen : (zs.take len).length = len := by simp; omega
    refine ⟨_, zs.take len, rfl, ⟨some a, cap, by rw [hlen], by omega, hm, fun k hk => ?_⟩, fun n hn => i64_of_wf (hwz n (List.mem_of_mem_take hn))⟩
    have h0 := addr_of_cell (hcell 0 (by omega)) rfl
    have hk' := hcell k (by omega)
    rw [h0, Addr.add_lit] at hk'
    refine ⟨a.block, a.off, _, congrArg some h0, lt_of_cell (a := ⟨a.block, a.off + k, none⟩) hk', hk', ?_⟩
    rw [geti_take (by omega)]; rfl

theorem open_V2 {t e q : TypeId} {fuel : Nat} {cs : List Value} {x : DataW H × List MemPlace} (ht : P.underlying t = some (.slice e)) (he : P.underlying e = some (.slice q)) (hq : P.underlying q = some (.int .i64))
    (ce : P.cellsOf e = 1) (cq : P.cellsOf q = 1) (h : DataW.trod enc P w 0 (fun _ => true) held fuel t cs = some x) : ∃ v l, cs = [v] ∧ V2 (Old w) w v l ∧ ∀ r ∈ l, ∀ n ∈ r, i64ok n := by
  rcases open_int_rows ht he hq ce cq h with ⟨rfl, _⟩ | ⟨a, len, cap, A, L, C, Z, rfl, _, hl, hm, _, hrow⟩
  · exact ⟨_, [], rfl, ⟨none, 0, rfl, Nat.le_refl _, Nat.zero_le _, fun k hk => absurd hk (by simp)⟩, by simp⟩
  · have hlen : ((List.range len).map fun r => (Z r).take (L r)).length = len := by simp
    refine ⟨_, (List.range len).map fun r => (Z r).take (L r), rfl, ⟨some a, cap, by rw [hlen], by omega, hm, fun k hk => ?_⟩, ?_⟩
    · rw [hlen] at hk
      obtain ⟨hc, hLC, hCm, hZ, hwf, hnone, hin⟩ := hrow k (by omega)
      have h0 := addr_of_cell (hrow 0 (by omega)).1 rfl
      have hc' := hc
      rw [h0, Addr.add_lit] at hc'
      have hg : getl ((List.range len).map fun r => (Z r).take (L r)) k = (Z k).take (L k) := by simp [getl, hk]
      have hzl : ((Z k).take (L k)).length = L k := by simp; omega
      refine ⟨a.block, a.off, _, congrArg some h0, lt_of_cell (a := ⟨a.block, a.off + k, none⟩) hc', hc', ?_⟩
      rw [hg]
      refine ⟨A k, C k, by rw [hzl], by omega, hCm, fun i hi => ?_⟩
      rw [hzl] at hi
      cases hA : A k with
      | none => have := hnone hA; omega
      | some a' =>
        obtain ⟨_, hin'⟩ := hin a' hA
        have g0 := addr_of_cell (hin' 0 (by omega)) rfl
        have gi := hin' i (by omega)
        rw [g0, Addr.add_lit] at gi
        refine ⟨a'.block, a'.off, _, congrArg some g0, lt_of_cell (a := ⟨a'.block, a'.off + i, none⟩) gi, gi, ?_⟩
        rw [geti_take (by omega)]; rfl
    · intro r hr n hn
      simp only [List.mem_map, List.mem_range] at hr
      obtain ⟨k, hk, rfl⟩ := hr
      exact i64_of_wf ((hrow k (by omega)).2.2.2.2.1 n (List.mem_of_mem_take hn))

/-- A struct of two, of five integers; and one of five integers and a slice. -/
theorem open_two {t q : TypeId} {f0 f1 : Field} {fuel : Nat} {cs : List Value} {x : DataW H × List MemPlace} (hs : P.underlying t = some (.struct #[f0, f1]))
    (hf : f0.type = q ∧ f0.offset = 0 ∧ f1.type = q ∧ f1.offset = 1) (hq : P.underlying q = some (.int .i64)) (cq : P.cellsOf q = 1) (ct : P.cellsOf t = 2)
    (h : DataW.trod enc P w 0 (fun _ => true) held fuel t cs = some x) : ∃ a b : Int, cs = [.int .i64 a, .int .i64 b] ∧ i64ok a ∧ i64ok b := by
  obtain ⟨e0, o0, e1, o1⟩ := hf
  obtain ⟨xs, n, _, _, hl, hn, hg⟩ := DataW.trod_struct hs h
  match xs, hn, cs, hl.trans ct with
  | [y0, y1], _, [c0, c1], _ =>
    have g0 := hg 0 f0 rfl
    have g1 := hg 1 f1 rfl
    rw [e0, o0, cq] at g0
    rw [e1, o1, cq] at g1
    obtain ⟨a, ha, _, wa⟩ := DataW.trod_int hq g0
    obtain ⟨b, hb, _, wb⟩ := DataW.trod_int hq g1
    simp at ha hb
    exact ⟨a, b, by rw [ha, hb], i64_of_wf wa, i64_of_wf wb⟩

theorem open_five {t q : TypeId} {f0 f1 f2 f3 f4 : Field} {fuel : Nat} {cs : List Value} {x : DataW H × List MemPlace} (hs : P.underlying t = some (.struct #[f0, f1, f2, f3, f4]))
    (hf : (f0.type = q ∧ f0.offset = 0) ∧ (f1.type = q ∧ f1.offset = 1) ∧ (f2.type = q ∧ f2.offset = 2) ∧ (f3.type = q ∧ f3.offset = 3) ∧ (f4.type = q ∧ f4.offset = 4))
    (hq : P.underlying q = some (.int .i64)) (cq : P.cellsOf q = 1) (ct : P.cellsOf t = 5)
    (h : DataW.trod enc P w 0 (fun _ => true) held fuel t cs = some x) : ∃ a b c d e : Int, cs = [.int .i64 a, .int .i64 b, .int .i64 c, .int .i64 d, .int .i64 e] ∧ i64ok a ∧ i64ok b ∧ i64ok c ∧ i64ok d ∧ i64ok e := by
  obtain ⟨⟨e0, o0⟩, ⟨e1, o1⟩, ⟨e2, o2⟩, ⟨e3, o3⟩, ⟨e4, o4⟩⟩ := hf
  obtain ⟨xs, n, _, _, hl, hn, hg⟩ := DataW.trod_struct hs h
  match xs, hn, cs, hl.trans ct with
  | [y0, y1, y2, y3, y4], _, [c0, c1, c2, c3, c4], _ =>
    have g0 := hg 0 f0 rfl
    have g1 := hg 1 f1 rfl
    have g2 := hg 2 f2 rfl
    have g3 := hg 3 f3 rfl
    have g4 := hg 4 f4 rfl
    rw [e0, o0, cq] at g0
    rw [e1, o1, cq] at g1
    rw [e2, o2, cq] at g2
    rw [e3, o3, cq] at g3
    rw [e4, o4, cq] at g4
    obtain ⟨a, ha, _, wa⟩ := DataW.trod_int hq g0
    obtain ⟨b, hb, _, wb⟩ := DataW.trod_int hq g1
    obtain ⟨c, hc, _, wc⟩ := DataW.trod_int hq g2
    obtain ⟨d, hd, _, wd⟩ := DataW.trod_int hq g3
    obtain ⟨e, he, _, we⟩ := DataW.trod_int hq g4
    simp at ha hb hc hd he
    exact ⟨a, b, c, d, e, by rw [ha, hb, hc, hd, he], i64_of_wf wa, i64_of_wf wb, i64_of_wf wc, i64_of_wf wd, i64_of_wf we⟩

theorem open_sys {t m q r1 r2 : TypeId} {g0 g1 f0 f1 f2 f3 f4 : Field} {fuel : Nat} {cs : List Value} {x : DataW H × List MemPlace} (ht : P.underlying t = some (.struct #[g0, g1]))
    (hg : g0.type = m ∧ g0.offset = 0 ∧ g1.type = r2 ∧ g1.offset = 5) (hs : P.underlying m = some (.struct #[f0, f1, f2, f3, f4]))
    (hf : (f0.type = q ∧ f0.offset = 0) ∧ (f1.type = q ∧ f1.offset = 1) ∧ (f2.type = q ∧ f2.offset = 2) ∧ (f3.type = q ∧ f3.offset = 3) ∧ (f4.type = q ∧ f4.offset = 4))
    (hq : P.underlying q = some (.int .i64)) (cq : P.cellsOf q = 1) (cm : P.cellsOf m = 5) (ct : P.cellsOf t = 6)
    (h2 : P.underlying r2 = some (.slice r1)) (h1 : P.underlying r1 = some (.slice q)) (c2 : P.cellsOf r2 = 1) (c1 : P.cellsOf r1 = 1)
    (h : DataW.trod enc P w 0 (fun _ => true) held fuel t cs = some x) : ∃ (a b c d e : Int) (v : Value) (l : List (List Int)), cs = [.int .i64 a, .int .i64 b, .int .i64 c, .int .i64 d, .int .i64 e, v] ∧
      (i64ok a ∧ i64ok b ∧ i64ok c ∧ i64ok d ∧ i64ok e) ∧ V2 (Old w) w v l ∧ ∀ r ∈ l, ∀ n ∈ r, i64ok n := by
  obtain ⟨e0, o0, e1, o1⟩ := hg
  obtain ⟨xs, n, _, _, hl, hn, hh⟩ := DataW.trod_struct ht h
  match xs, hn, cs, hl.trans ct with
  | [y0, y1], _, [c0, c1', c2', c3, c4, c5], _ =>
    have k0 := hh 0 g0 rfl
    have k1 := hh 1 g1 rfl
    rw [e0, o0, cm] at k0
    rw [e1, o1, c2] at k1
    obtain ⟨a, b, c, d, e, he, hok⟩ := open_five hs hf hq cq cm k0
    obtain ⟨v, l, hv, hV, hw⟩ := open_V2 h2 h1 hq c1 cq k1
    simp at he hv
    obtain ⟨rfl, rfl, rfl, rfl, rfl⟩ := he
    subst hv
    exact ⟨a, b, c, d, e, c5, l, rfl, hok, hV, hw⟩

theorem arg_V1 {r : Reach} {b0 : Nat} {t e : TypeId} {v : Value} {d : DataW H} {p : List MemPlace} (ht : P.underlying t = some (.slice e)) (he : P.underlying e = some (.int .i64)) (ce : P.cellsOf e = 1)
    (hv : Value.okWide P w r b0 t v) (h : DataW.Trod enc P w 0 (fun _ => true) held t v d p) : ∃ l, V1 (Old w) w v l ∧ ∀ n ∈ l, i64ok n := by
  obtain ⟨a0, len, cap, rfl⟩ := okWide_slice ht hv
  obtain ⟨n, hn⟩ := h
  obtain ⟨v', l, hc, hV, hw⟩ := open_V1 ht he ce hn
  simp [Value.cells] at hc
  rw [← hc] at hV
  exact ⟨l, hV, hw⟩
theorem arg_V2 {r : Reach} {b0 : Nat} {t e q : TypeId} {v : Value} {d : DataW H} {p : List MemPlace} (ht : P.underlying t = some (.slice e)) (he : P.underlying e = some (.slice q)) (hq : P.underlying q = some (.int .i64))
    (ce : P.cellsOf e = 1) (cq : P.cellsOf q = 1) (hv : Value.okWide P w r b0 t v) (h : DataW.Trod enc P w 0 (fun _ => true) held t v d p) : ∃ l, V2 (Old w) w v l ∧ ∀ r ∈ l, ∀ n ∈ r, i64ok n := by
  obtain ⟨a0, len, cap, rfl⟩ := okWide_slice ht hv
  obtain ⟨n, hn⟩ := h
  obtain ⟨v', l, hc, hV, hw⟩ := open_V2 ht he hq ce cq hn
  simp [Value.cells] at hc
  rw [← hc] at hV
  exact ⟨l, hV, hw⟩
theorem arg_five {r : Reach} {b0 : Nat} {t q : TypeId} {f0 f1 f2 f3 f4 : Field} {v : Value} {d : DataW H} {p : List MemPlace} (hs : P.underlying t = some (.struct #[f0, f1, f2, f3, f4]))
    (hf : (f0.type = q ∧ f0.offset = 0) ∧ (f1.type = q ∧ f1.offset = 1) ∧ (f2.type = q ∧ f2.offset = 2) ∧ (f3.type = q ∧ f3.offset = 3) ∧ (f4.type = q ∧ f4.offset = 4))
    (hq : P.underlying q = some (.int .i64)) (cq : P.cellsOf q = 1) (ct : P.cellsOf t = 5) (hv : Value.okWide P w r b0 t v) (h : DataW.Trod enc P w 0 (fun _ => true) held t v d p) :
    ∃ a b c d e : Int, v = .agg #[.int .i64 a, .int .i64 b, .int .i64 c, .int .i64 d, .int .i64 e] ∧ i64ok a ∧ i64ok b ∧ i64ok c ∧ i64ok d ∧ i64ok e := by
  obtain ⟨cs, rfl, _⟩ := okWide_struct hs hv
  obtain ⟨n, hn⟩ := h
  obtain ⟨a, b, c, d, e, hc, hok⟩ := open_five hs hf hq cq ct hn
  refine ⟨a, b, c, d, e, ?_, hok⟩
  obtain ⟨l⟩ := cs
  simp [Value.cells] at hc
  rw [hc]
theorem arg_sys {r : Reach} {b0 : Nat} {t m q r1 r2 : TypeId} {g0 g1 f0 f1 f2 f3 f4 : Field} {v : Value} {d : DataW H} {p : List MemPlace} (ht : P.underlying t = some (.struct #[g0, g1]))
    (hg : g0.type = m ∧ g0.offset = 0 ∧ g1.type = r2 ∧ g1.offset = 5) (hs : P.underlying m = some (.struct #[f0, f1, f2, f3, f4]))
    (hf : (f0.type = q ∧ f0.offset = 0) ∧ (f1.type = q ∧ f1.offset = 1) ∧ (f2.type = q ∧ f2.offset = 2) ∧ (f3.type = q ∧ f3.offset = 3) ∧ (f4.type = q ∧ f4.offset = 4))
    (hq : P.underlying q = some (.int .i64)) (cq : P.cellsOf q = 1) (cm : P.cellsOf m = 5) (ct : P.cellsOf t = 6)
    (h2 : P.underlying r2 = some (.slice r1)) (h1 : P.underlying r1 = some (.slice q)) (c2 : P.cellsOf r2 = 1) (c1 : P.cellsOf r1 = 1)
    (hv : Value.okWide P w r b0 t v) (h : DataW.Trod enc P w 0 (fun _ => true) held t v d p) : ∃ (a b c d e : Int) (u : Value) (l : List (List Int)), v = .agg #[.int .i64 a, .int .i64 b, .int .i64 c, .int .i64 d, .int .i64 e, u] ∧
      (i64ok a ∧ i64ok b ∧ i64ok c ∧ i64ok d ∧ i64ok e) ∧ V2 (Old w) w u l ∧ ∀ r ∈ l, ∀ n ∈ r, i64ok n := by
  obtain ⟨cs, rfl, _⟩ := okWide_struct ht hv
  obtain ⟨n, hn⟩ := h
  obtain ⟨a, b, c, d, e, u, l, hc, hok⟩ := open_sys ht hg hs hf hq cq cm ct h2 h1 c2 c1 hn
  refine ⟨a, b, c, d, e, u, l, ?_, hok⟩
  obtain ⟨k⟩ := cs
  simp [Value.cells] at hc
  rw [hc]
theorem open_VS {t e q : TypeId} {f0 f1 : Field} {fuel : Nat} {cs : List Value} {x : DataW H × List MemPlace} (ht : P.underlying t = some (.slice e)) (he : P.underlying e = some (.struct #[f0, f1]))
    (hf : f0.type = q ∧ f0.offset = 0 ∧ f1.type = q ∧ f1.offset = 1) (hq : P.underlying q = some (.int .i64)) (cq : P.cellsOf q = 1) (ce : P.cellsOf e = 2)
    (h : DataW.trod enc P w 0 (fun _ => true) held fuel t cs = some x) : ∃ v l, cs = [v] ∧ VS (Old w) w v l ∧ ∀ s ∈ l, i64ok s.1 ∧ i64ok s.2 := by
  rcases open_slice ht h with ⟨rfl, _⟩ | ⟨a, len, cap, m, n, D, Pl, rfl, _, hl, hm, hmm, _, hel⟩
  · exact ⟨_, [], rfl, ⟨none, 0, rfl, Nat.le_refl _, Nat.zero_le _, fun k hk => absurd hk (by simp)⟩, by simp⟩
  · simp only [if_true] at hmm
    subst hmm
    rw [ce] at hel
    have each : ∀ i, i < m → ∃ s : Int × Int, w.cell? (a.add (i * 2)) = some (.int .i64 s.1) ∧ w.cell? (a.add (i * 2 + 1)) = some (.int .i64 s.2) ∧ i64ok s.1 ∧ i64ok s.2 := by
      intro i hi
      obtain ⟨cs', hc, ht'⟩ := hel i hi
      obtain ⟨p, q', rfl, hp, hq'⟩ := open_two he hf hq cq ce ht'
      obtain ⟨_, _, hat⟩ := World.cells?_some hc
      have h0 := hat 0 (by omega)
      have h1 := hat 1 (by omega)
      rw [Addr.add_zero'] at h0
      rw [← Go.Deep.add_add]
      exact ⟨(p, q'), by simpa using h0, by simpa using h1, hp, hq'⟩
    obtain ⟨F, hF⟩ := choose_lt each
    have hlen : ((List.range len).map F).length = len := by simp
    refine ⟨_, (List.range len).map F, rfl, ⟨some a, m, by rw [hlen], by omega, hm, fun k hk => ?_⟩, ?_⟩
    · rw [hlen] at hk
      obtain ⟨h1, h2, _, _⟩ := hF k (by omega)
      have h0 := addr_of_cell (by simpa using (hF 0 (by omega)).1) rfl
      rw [h0, Addr.add_lit] at h1
      rw [h0, Addr.add_lit] at h2
      have hg : gets ((List.range len).map F) k = F k := by simp [gets, hk]
      exact ⟨a.block, a.off, congrArg some h0, lt_of_cell (a := ⟨a.block, a.off + k * 2, none⟩) h1, by rw [hg]; exact h1, by rw [hg]; exact h2⟩
    · intro s hs
      simp only [List.mem_map, List.mem_range] at hs
      obtain ⟨k, hk, rfl⟩ := hs
      exact (hF k (by omega)).2.2
theorem arg_VS {r : Reach} {b0 : Nat} {t e q : TypeId} {f0 f1 : Field} {v : Value} {d : DataW H} {p : List MemPlace} (ht : P.underlying t = some (.slice e)) (he : P.underlying e = some (.struct #[f0, f1]))
    (hf : f0.type = q ∧ f0.offset = 0 ∧ f1.type = q ∧ f1.offset = 1) (hq : P.underlying q = some (.int .i64)) (cq : P.cellsOf q = 1) (ce : P.cellsOf e = 2)
    (hv : Value.okWide P w r b0 t v) (h : DataW.Trod enc P w 0 (fun _ => true) held t v d p) : ∃ l, VS (Old w) w v l ∧ ∀ s ∈ l, i64ok s.1 ∧ i64ok s.2 := by
  obtain ⟨a0, len, cap, rfl⟩ := okWide_slice ht hv
  obtain ⟨n, hn⟩ := h
  obtain ⟨v', l, hc, hV, hw⟩ := open_VS ht he hf hq cq ce hn
  simp [Value.cells] at hc
  rw [← hc] at hV
  exact ⟨l, hV, hw⟩
theorem arg_int {r : Reach} {b0 : Nat} {t : TypeId} {v : Value} {d : DataW H} {p : List MemPlace} (ht : P.underlying t = some (.int .i64)) (hv : Value.okWide P w r b0 t v) (h : DataW.Trod enc P w 0 (fun _ => true) held t v d p) : ∃ a : Int, v = .int .i64 a ∧ i64ok a := by
  obtain ⟨a, rfl, _, _, wa⟩ := open_int ht hv h
  exact ⟨a, rfl, i64_of_wf wa⟩

theorem _root_.Go.DataW.Trod.stay_below {P : Program} {enc : TypeId × Value → H} {t : TypeId} (hl : laidOutB P = true) (hr : P.readableRec t = true) (hrow : t < P.types.size) {W W' : World} {v : Value} {d : DataW H} {ps : List MemPlace}
    (h : DataW.Trod enc P W 0 (fun _ => true) true t v d ps) (hb : Below W.heap.size W W') (hlt : ∀ x ∈ ps, x.block < W.heap.size) : DataW.Trod enc P W' 0 (fun b => decide (b < W.heap.size)) true t v d ps :=
  Below.trod hl hr hrow h hb hlt

theorem trodAll_stays {P : Program} {enc : TypeId × Value → H} (hl : laidOutB P = true) {W W' : World} (hB : Below W.heap.size W W') : ∀ {ts : List TypeId} {vs : List Value} {ds : List (DataW H)} {ps : List MemPlace},
    (∀ t ∈ ts, P.readableRec t = true ∧ t < P.types.size) → DataW.TrodAll enc P W 0 (fun _ => true) true ts vs ds ps → (∀ x ∈ ps, x.block < W.heap.size) → DataW.TrodAll enc P W' 0 (fun b => decide (b < W.heap.size)) true ts vs ds ps := by
  intro ts
  induction ts with
  | nil => intro vs ds ps _ h _; obtain ⟨rfl, rfl, rfl⟩ := trodAll_nil h; exact trodAll_mk0
  | cons t ts ih =>
    intro vs ds ps hr h hlt
    obtain ⟨v, vs', d, ds', p, q, rfl, rfl, rfl, h0, h1⟩ := trodAll_cons h
    refine trodAll_cons_mk ?_ (ih (fun u hu => hr u (List.mem_cons_of_mem _ hu)) h1 (fun x hx => hlt x (List.mem_append_right _ hx)))
    exact h0.stay_below hl (hr t (List.mem_cons_self ..)).1 (hr t (List.mem_cons_self ..)).2 hB (fun x hx => hlt x (List.mem_append_left _ hx))

/-- What a law's row asks behind the call, where the call has left alone all that was there. -/
theorem law_post {P : Program} {enc : TypeId × Value → H} {f : Func} {s : ChangeSpec} {W W' : World} {args : Array Value} {ds gs : List (DataW H)} {before : List MemPlace} {tb : TypeId}
    (hW : DataW.Whole enc P f.params.toList s.vars false W args.toList ds gs before) (hv : s.vars = []) (hrt : f.resultTypes = #[tb]) (hb : P.underlying tb = some .bool)
    (hs : s.fn H (ds ++ gs) = { results := [.lit (.bool true)], args := ds }) (hB : Below W.heap.size W W') (hl : laidOutB P = true) (hr0 : (f.params.toList.all fun t => P.readableRec t && decide (t < P.types.size)) = true) :
    s.post enc P f false true false false W args (.bool true) W' := by
  have hr : ∀ t ∈ f.params.toList, P.readableRec t = true ∧ t < P.types.size := fun t ht => by
    have := List.all_eq_true.1 hr0 t ht
    simpa using this
  have hlt := hW.lt
  have hW' := hW
  obtain ⟨p, q, hA, hV, rfl, _, _⟩ := hW
  rw [hv] at hV
  obtain ⟨rfl, rfl⟩ := trodVars_none hV
  refine ⟨ds, [], p ++ [], [], p, [], hW', ?_, ?_, ?_, hB.frame _, fun h => by cases h⟩
  · rw [hs, hrt]; exact trodAll_mk1 (shut_bool hb true)
  · rw [hs]; exact trodAll_stays hl hB hr hA (fun x hx => hlt x (List.mem_append_left _ hx))
  · rw [hs, hv]; rfl
end
end Go.Proofs.YtikdbjaimcciiaaGreat
