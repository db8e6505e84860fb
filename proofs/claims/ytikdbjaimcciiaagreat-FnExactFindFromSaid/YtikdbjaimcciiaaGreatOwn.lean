/- Slices that a call has made itself and that share no memory: what they hold, and what a store into them does. No conditions. -/
import Derived.Test.YtikdbjaimcciiaaGreatLib
namespace Go.Proofs.YtikdbjaimcciiaaGreat
open Go.RowKit
set_option linter.unusedVariables false
set_option linter.unusedSimpArgs false

theorem heap_setCell_self {w : World} {b off : Nat} {cs : Array Value} {T : TypeId} {fz : Nat × Nat} (h : w.heap[b]? = some (.cells cs T fz)) (u : Value) :
    (w.setCell ⟨b, off, none⟩ u).heap[b]? = some (.cells (cs.setIfInBounds off u) T fz) := by
  simp only [World.setCell, Array.getElem?_modify, if_true, h]
  rfl
theorem heap_setCell_other {w : World} {b off k : Nat} (u : Value) (h : k ≠ b) : (w.setCell ⟨b, off, none⟩ u).heap[k]? = w.heap[k]? := Below.heap_setCell _ _ _ _ h
theorem frozen_of_block {w : World} {b : Nat} {cs : Array Value} {T : TypeId} (h : w.heap[b]? = some (.cells cs T (0, 0))) (off : Nat) : w.frozen? ⟨b, off, none⟩ = false := by
  simp [World.frozen?, h]
theorem lt_of_heap {w : World} {b : Nat} {o : Obj} (h : w.heap[b]? = some o) : b < w.heap.size := (Array.getElem?_eq_some_iff.1 h).1

/-- v holds l, in block b alone, which may be written. -/
def X1 (w : World) (v : Value) (l : List Int) (b : Nat) : Prop :=
  ∃ a c, v = .slice a l.length c ∧ l.length ≤ c ∧ c ≤ maxLen ∧
    (l ≠ [] → ∃ off cs e, a = some ⟨b, off, none⟩ ∧ w.heap[b]? = some (.cells cs e (0, 0)) ∧ ∀ k, k < l.length → cs[off + k]? = some (.int .i64 (geti l k)))

theorem X1.keep {w w' : World} {v : Value} {l : List Int} {b : Nat} (h : X1 w v l b) (hk : l ≠ [] → w'.heap[b]? = w.heap[b]?) : X1 w' v l b := by
  obtain ⟨a, c, rfl, h1, h2, h⟩ := h
  refine ⟨a, c, rfl, h1, h2, fun hn => ?_⟩
  obtain ⟨off, cs, e, ha, hh, hc⟩ := h hn
  exact ⟨off, cs, e, ha, by rw [hk hn, hh], hc⟩
theorem X1.lt {w : World} {v : Value} {l : List Int} {b : Nat} (h : X1 w v l b) (hn : l ≠ []) : b < w.heap.size := by
  obtain ⟨a, c, rfl, h1, h2, h⟩ := h
  obtain ⟨off, cs, e, ha, hh, hc⟩ := h hn
  exact lt_of_heap hh
theorem X1.v1 {w : World} {v : Value} {l : List Int} {b : Nat} {S : Nat → Prop} (h : X1 w v l b) (hS : l ≠ [] → S b) : V1 S w v l := by
  obtain ⟨a, c, rfl, h1, h2, h⟩ := h
  refine ⟨a, c, rfl, h1, h2, fun k hk => ?_⟩
  have hn : l ≠ [] := by intro e; subst e; simp at hk
  obtain ⟨off, cs, e, ha, hh, hc⟩ := h hn
  exact ⟨b, off, _, ha, hS hn, by rw [cell_of_block hh]; exact hc k hk, rfl⟩

/-- v holds ls: the rows in blocks of their own (bk k), the slice of the rows in block ob. -/
def X2 (w : World) (v : Value) (ls : List (List Int)) (ob : Nat) (bk : Nat → Nat) : Prop :=
  ∃ a c, v = .slice a ls.length c ∧ ls.length ≤ c ∧ c ≤ maxLen ∧
    (ls ≠ [] → ∃ off cs e, a = some ⟨ob, off, none⟩ ∧ w.heap[ob]? = some (.cells cs e (0, 0)) ∧ ∀ k, k < ls.length → ∃ rv, cs[off + k]? = some rv ∧ X1 w rv (getl ls k) (bk k)) ∧
    (∀ k, k < ls.length → getl ls k ≠ [] → bk k ≠ ob ∧ ∀ j, j < ls.length → j ≠ k → getl ls j ≠ [] → bk j ≠ bk k)

theorem X2.keep {w w' : World} {v : Value} {ls : List (List Int)} {ob : Nat} {bk : Nat → Nat} (h : X2 w v ls ob bk) (ho : ls ≠ [] → w'.heap[ob]? = w.heap[ob]?) (hk : ∀ k, k < ls.length → getl ls k ≠ [] → w'.heap[bk k]? = w.heap[bk k]?) : X2 w' v ls ob bk := by
  obtain ⟨a, c, rfl, h1, h2, h, hd⟩ := h
  refine ⟨a, c, rfl, h1, h2, fun hn => ?_, hd⟩
  obtain ⟨off, cs, e, ha, hh, hc⟩ := h hn
  refine ⟨off, cs, e, ha, by rw [ho hn, hh], fun k hlt => ?_⟩
  obtain ⟨rv, h3, h4⟩ := hc k hlt
  exact ⟨rv, h3, h4.keep (hk k hlt)⟩
theorem X2.v2 {w : World} {v : Value} {ls : List (List Int)} {ob : Nat} {bk : Nat → Nat} {S : Nat → Prop} (h : X2 w v ls ob bk) (ho : ls ≠ [] → S ob) (hS : ∀ k, k < ls.length → getl ls k ≠ [] → S (bk k)) : V2 S w v ls := by
  obtain ⟨a, c, rfl, h1, h2, h, hd⟩ := h
  refine ⟨a, c, rfl, h1, h2, fun k hk => ?_⟩
  have hn : ls ≠ [] := by intro e; subst e; simp at hk
  obtain ⟨off, cs, e, ha, hh, hc⟩ := h hn
  obtain ⟨rv, h3, h4⟩ := hc k hk
  exact ⟨ob, off, rv, ha, ho hn, by rw [cell_of_block hh]; exact h3, h4.v1 (hS k hk)⟩
theorem X2.lt {w : World} {v : Value} {ls : List (List Int)} {ob : Nat} {bk : Nat → Nat} (h : X2 w v ls ob bk) (hn : ls ≠ []) : ob < w.heap.size ∧ ∀ k, k < ls.length → getl ls k ≠ [] → bk k < w.heap.size := by
  obtain ⟨a, c, rfl, h1, h2, h, hd⟩ := h
  obtain ⟨off, cs, e, ha, hh, hc⟩ := h hn
  refine ⟨lt_of_heap hh, fun k hk hne => ?_⟩
  obtain ⟨rv, h3, h4⟩ := hc k hk
  exact h4.lt hne

/-- Fresh from block B on. -/
def F1 (B : Nat) (w : World) (v : Value) (l : List Int) : Prop := ∃ b, X1 w v l b ∧ (l ≠ [] → B ≤ b)
def F2 (B : Nat) (w : World) (v : Value) (ls : List (List Int)) : Prop := ∃ ob bk, X2 w v ls ob bk ∧ (ls ≠ [] → B ≤ ob) ∧ ∀ k, k < ls.length → getl ls k ≠ [] → B ≤ bk k
theorem F1.v1 {B : Nat} {w : World} {v : Value} {l : List Int} (h : F1 B w v l) : V1 (fun b => B ≤ b) w v l := by
  obtain ⟨b, h1, h2⟩ := h
  exact h1.v1 h2
theorem F2.v2 {B : Nat} {w : World} {v : Value} {ls : List (List Int)} (h : F2 B w v ls) : V2 (fun b => B ≤ b) w v ls := by
  obtain ⟨ob, bk, h1, h2, h3⟩ := h
  exact h1.v2 h2 h3
theorem F1.set {B b off : Nat} {w : World} {v u : Value} {l : List Int} (h : F1 B w v l) (hb : b < B) : F1 B (w.setCell ⟨b, off, none⟩ u) v l := by
  obtain ⟨c, h1, h2⟩ := h
  exact ⟨c, h1.keep fun hn => heap_setCell_other _ (by have := h2 hn; omega), h2⟩
theorem F2.set {B b off : Nat} {w : World} {v u : Value} {ls : List (List Int)} (h : F2 B w v ls) (hb : b < B) : F2 B (w.setCell ⟨b, off, none⟩ u) v ls := by
  obtain ⟨ob, bk, h1, h2, h3⟩ := h
  exact ⟨ob, bk, h1.keep (fun hn => heap_setCell_other _ (by have := h2 hn; omega)) (fun k hk hne => heap_setCell_other _ (by have := h3 k hk hne; omega)), h2, h3⟩
theorem F1.mono {B B' : Nat} {w : World} {v : Value} {l : List Int} (h : F1 B w v l) (hb : B' ≤ B) : F1 B' w v l := by
  obtain ⟨c, h1, h2⟩ := h
  exact ⟨c, h1, fun hn => by have := h2 hn; omega⟩
theorem F2.mono {B B' : Nat} {w : World} {v : Value} {ls : List (List Int)} (h : F2 B w v ls) (hb : B' ≤ B) : F2 B' w v ls := by
  obtain ⟨ob, bk, h1, h2, h3⟩ := h
  exact ⟨ob, bk, h1, fun hn => by have := h2 hn; omega, fun k hk hne => by have := h3 k hk hne; omega⟩
theorem F1.below {B : Nat} {w w' : World} {v : Value} {l : List Int} (h : F1 B w v l) (hb : Below w.heap.size w w') : F1 B w' v l := by
  obtain ⟨b, h1, h2⟩ := h
  exact ⟨b, h1.keep fun hn => hb.block b (h1.lt hn), h2⟩
theorem F2.below {B : Nat} {w w' : World} {v : Value} {ls : List (List Int)} (h : F2 B w v ls) (hb : Below w.heap.size w w') : F2 B w' v ls := by
  obtain ⟨ob, bk, h1, h2, h3⟩ := h
  refine ⟨ob, bk, h1.keep (fun hn => hb.block ob (h1.lt hn).1) (fun k hk hne => hb.block _ ((h1.lt ?_).2 k hk hne)), h2, h3⟩
  intro e; subst e; simp at hk

/-- make([]T, n): a new block of n elements. -/
theorem wp_mk {P : Program} (w : World) {ops : Array Oper} {rest : List Oper} {o : Oper} {a : Act} {Q : Exit → Act → World → Prop}
    (hg : o.guard = none) (l c : Operand) (t : TypeId) (hop : o.op = Op.makeSlice t l c)
    (e : TypeId) (z : Value) (size bytes : Nat) (h1 : P.underlying t = some (.slice e)) (h2 : (P.info? e).map (fun i => (i.zero, i.size, i.bytes)) = some (some z, size, bytes))
    (n : Nat) (hl : a.eval l = .int .i64 (n : Int)) (hc : a.eval c = .int .i64 (n : Int)) (b2 : bytes * n ≤ 281474976710656) (b3 : n ≤ 9223372036854775807)
    (hK : ∀ w' cs, w'.heap[w.heap.size]? = some (.cells cs e (0, 0)) → cs.size = n * size → cs.toList = (madeCells z.cells (n * size)).toList → Below w.heap.size w w' → w.heap.size < w'.heap.size → wpList P ops Q rest (a.put o.dst (.slice (some ⟨w.heap.size, 0, none⟩) n n)) w') :
    wpList P ops Q (o :: rest) a w := by
  obtain ⟨i, hi, hz0, hz1, hz2⟩ := info_parts h2
  refine wpList_make_full w hg l c t hop w.heap.size e i z size h1 hi hz0 hz1 .i64 .i64 n n n hl hc rfl rfl (by rw [hz2]; exact b2) (by unfold maxLen; omega) (Nat.le_refl _) ?_
  intro w' hown hgrow
  obtain ⟨hlen, ⟨hv, _⟩ | ⟨g, cap, cur, hv, hg1, hh, _, _, hs, htake⟩⟩ := hown
  · cases hv
  · simp at hv
    obtain ⟨rfl, rfl⟩ := hv
    have ht : cur.toList = (madeCells z.cells (n * size)).toList := by
      rw [← htake, List.take_of_length_le]
      simp [hs]
    exact hK w' cur hh hs ht ((Below.refl _ _).grown hgrow (Nat.le_refl _) (fun k hk => by cases hk)) (lt_of_heap hh)

/-- An append onto a slice that the call owns, of m elements: where the result lies. -/
theorem run_append_blk {P : Program} (w : World) (base : Nat) (t ty e : TypeId) (z : Value) (size bytes : Nat) (ht : P.underlying t = some (.slice e)) (h2 : (P.info? e).map (fun i => (i.zero, i.size, i.bytes)) = some (some z, size, bytes))
    (hzs : z.cells.size = size) (hsz : 0 < size) (v : Value) (n : Nat) (xs : List Value) (hown : w.ownsRow base e size v n xs)
    (a : Addr) (m c : Nat) (news : List Value) (hl : news.length = m * size) (hnews : ∀ j u, news[j]? = some u → w.cell? (a.add j) = some u) (h1 : ∀ u ∈ news, u.oneCell' = true)
    (h63 : n + m ≤ maxLen) (hbytes : (n + m) * bytes ≤ 140737488355328) (hbase : base ≤ w.heap.size) :
    ∃ v' w', (Builtin.append_ #[t, t] ty #[v, .slice (some a) m c]).run P w = .ok v' w' ∧ w'.ownsRow base e size v' (n + m) (xs ++ news) ∧ w.grownBy w' v.ownBlock ∧ (v'.ownBlock = v.ownBlock ∨ v'.ownBlock = some w.heap.size) := by
  obtain ⟨i, hi, hz, hs, hb⟩ := info_parts h2
  obtain ⟨v', w', hr, ho, hg, hn⟩ := run_append_own (P := P) w base t ty e i z size bytes ht hi hz hs hb hzs hsz v n xs hown a m c news hl hnews h1 h63 hbytes hbase
  refine ⟨v', w', hr, ho, hg, ?_⟩
  have h63' : n + m ≤ 9223372036854775807 := by simp only [maxLen] at h63; omega
  subst hs
  subst hb
  rcases hown.2 with ⟨hv, hn0⟩ | ⟨g, cap, cur, hv, hbg, hgg, hnc, hcm, hcs, htake⟩
  · subst hv
    subst hn0
    by_cases hm : m = 0
    · rw [hn.2 ⟨rfl, hm⟩]; exact .inl rfl
    · have hr2 := run_append_nil (P := P) w t ty e i z ht hi hz a m c news hl hnews (by omega) (by omega) (by have hb := hbytes; simp only [Nat.zero_add] at hb; omega)
      rw [hr2] at hr
      injection hr with e1 e2
      rw [← e1]; exact .inr rfl
  · subst hv
    by_cases hroom : n + m ≤ cap
    · obtain ⟨w2, hr2, _, _⟩ := run_append_fits (P := P) w base t ty e i i.size ht hi rfl g n cap xs hown a m c news hl hnews h1 hroom
      rw [hr2] at hr
      injection hr with e1 e2
      rw [← e1]; exact .inl rfl
    · have holds : ∀ j u, xs[j]? = some u → w.cell? ((⟨g, 0, none⟩ : Addr).add j) = some u := hown.cells (g := g) rfl
      have hr2 := run_append_grow (P := P) w t ty e i z ht hi hz ⟨g, 0, none⟩ n cap xs hown.1 holds a m c news hl hnews (by omega) (by omega) (growslice_fits (by omega) hbytes)
      rw [hr2] at hr
      injection hr with e1 e2
      rw [← e1]; exact .inr rfl

theorem wp_app {P : Program} {w : World} {ops : Array Oper} {rest : List Oper} {o : Oper} {a : Act} {Q : Exit → Act → World → Prop} (hgd : o.guard = none) (s x : Operand) (t : TypeId)
    (ho : o.op = .call { callee := .builtin .append, args := #[s, x], argTypes := #[t, t] })
    (base : Nat) (e : TypeId) (z : Value) (size bytes : Nat) (ht : P.underlying t = some (.slice e)) (h2 : (P.info? e).map (fun i => (i.zero, i.size, i.bytes)) = some (some z, size, bytes)) (hzs : z.cells.size = size) (hsz : 0 < size)
    (v : Value) (n : Nat) (xs : List Value) (hs : a.eval s = v) (hown : w.ownsRow base e size v n xs)
    (ad : Addr) (m c : Nat) (news : List Value) (hx : a.eval x = .slice (some ad) m c) (hl : news.length = m * size) (hnews : ∀ j u, news[j]? = some u → w.cell? (ad.add j) = some u) (h1 : ∀ u ∈ news, u.oneCell' = true)
    (h63 : n + m ≤ maxLen) (hbytes : (n + m) * bytes ≤ 140737488355328) (hbase : base ≤ w.heap.size)
    (h : ∀ v' w', w'.ownsRow base e size v' (n + m) (xs ++ news) → w.grownBy w' v.ownBlock → (v'.ownBlock = v.ownBlock ∨ v'.ownBlock = some w.heap.size) → wpList P ops Q rest (a.put o.dst v') w') : wpList P ops Q (o :: rest) a w :=
  wpList_plain hgd fun _ hK => by
    obtain ⟨v', w', hr, h2', h3, h4⟩ := run_append_blk (P := P) w base t o.type e z size bytes ht h2 hzs hsz v n xs hown ad m c news hl hnews h1 h63 hbytes hbase
    unfold Oper.wp execOp
    simp only [ho, resolve, invoke, builtin, Sem.run_bind, Sem.run_pure, Result.andThen_ok, List.map_toArray, List.map_cons, List.map_nil, hs, hx, hr]
    exact hK _ _ (h v' w' h2' h3 h4)

/-- 'append(out, x)', x in one cell, just laid in a block of its own. -/
theorem wp_app1 {P : Program} (w0 : World) {ops : Array Oper} {rest : List Oper} {o : Oper} {a : Act} {Q : Exit → Act → World → Prop} (hgd : o.guard = none) (s x : Operand) (t : TypeId)
    (ho : o.op = .call { callee := .builtin .append, args := #[s, x], argTypes := #[t, t] })
    (base : Nat) (e : TypeId) (z : Value) (bytes : Nat) (ht : P.underlying t = some (.slice e)) (h2 : (P.info? e).map (fun i => (i.zero, i.size, i.bytes)) = some (some z, 1, bytes)) (hzs : z.cells.size = 1)
    (v : Value) (n : Nat) (xs : List Value) (hs : a.eval s = v) (hown : w0.ownsRow base e 1 v n xs) (nv : Value) (e2 : TypeId) (hx : a.eval x = .slice (some ⟨w0.heap.size, 0, none⟩) 1 1) (hone : nv.oneCell' = true)
    (hn : n + 1 ≤ 1000000000) (hby : bytes ≤ 1000) (hbase : base ≤ w0.heap.size)
    (h : ∀ v' w', w'.ownsRow base e 1 v' (n + 1) (xs ++ [nv]) → w0.grownBy w' v.ownBlock → (v'.ownBlock = v.ownBlock ∨ ∃ g, v'.ownBlock = some g ∧ w0.heap.size ≤ g) → Below base w0 w' → wpList P ops Q rest (a.put o.dst v') w') :
    wpList P ops Q (o :: rest) a (w0.alloc (.cells #[nv] e2)) := by
  have hown' := hown.alloc (.cells #[nv] e2)
  have hlt := hown.lt
  refine wp_app hgd s x t ho base e z 1 bytes ht h2 hzs (by omega) v n xs hs hown' ⟨w0.heap.size, 0, none⟩ 1 1 [nv] hx rfl ?_ (by simpa using hone) (by unfold maxLen; omega) ?_ (by simp; omega) ?_
  · intro j u hj
    cases j with
    | zero =>
      simp at hj
      subst hj
      rw [Addr.add_zero', cell_of_block (heap_alloc_self _ _)]; rfl
    | succ j => simp at hj
  · have : (n + 1) * bytes ≤ 1000000000 * 1000 := Nat.mul_le_mul hn hby
    omega
  · intro v' w' ho' hg hblk
    have hg0 : w0.grownBy w' v.ownBlock := ⟨hg.os, hg.tape, hg.output, by have := hg.size; simp at this; omega, fun k hk hne => by
      rw [hg.block k (by simp; omega) hne]; exact Below.heap_alloc _ _ _ hk⟩
    refine h v' w' ho' hg0 ?_ ((Below.refl _ _).grown hg0 hbase (fun k hk => (hlt k hk).1))
    rcases hblk with hb | hb
    · exact .inl hb
    · exact .inr ⟨_, hb, by simp⟩

theorem own_lit0 (w : World) (base : Nat) (e : TypeId) (size : Nat) (hb : base ≤ w.heap.size) : (w.alloc (.cells #[] e)).ownsRow base e size (.slice (some ⟨w.heap.size, 0, none⟩) 0 0) 0 [] :=
  World.ownsRow_lit w #[] 0 hb (Nat.zero_le _) (by simp)

/-- What the call owns and has finished. -/
theorem own_F1 {w : World} {B : Nat} {e : TypeId} {v : Value} {n : Nat} {l : List Int} (h : w.ownsRow B e 1 v n (l.map (Value.int .i64))) : F1 B w v l := by
  obtain ⟨hl, h⟩ := h
  have hn : n = l.length := by simpa using hl.symm
  subst hn
  rcases h with ⟨rfl, h0⟩ | ⟨g, cap, cur, rfl, hb, hh, hc, hm, hs, ht⟩
  · have : l = [] := List.eq_nil_of_length_eq_zero h0
    subst this
    exact ⟨0, ⟨none, 0, rfl, Nat.le_refl _, Nat.zero_le _, fun h => absurd rfl h⟩, fun h => absurd rfl h⟩
  · refine ⟨g, ⟨_, _, rfl, hc, hm, fun _ => ⟨0, cur, e, rfl, hh, fun k hk => ?_⟩⟩, fun _ => hb⟩
    have h1 : (cur.toList.take (l.length * 1))[k]? = (l.map (Value.int .i64))[k]? := by rw [ht]
    rw [List.getElem?_take, if_pos (by omega), List.getElem?_map] at h1
    rw [Nat.zero_add, ← Array.getElem?_toList, h1, List.getElem?_eq_getElem hk, geti_eq hk]; rfl

theorem box_facts (W : World) (cs : Array Value) (T : TypeId) : ∃ W1, W1 = W.alloc (.cells cs T) ∧ Below W.heap.size W W1 ∧ W.heap.size < W1.heap.size ∧ Hid (W1.heap.size = W.heap.size + 1) ∧ (∀ o, W1.cell? ⟨W.heap.size, o, none⟩ = cs[o]?) ∧ W1.heap[W.heap.size]? = some (.cells cs T (0, 0)) :=
  ⟨_, rfl, (Below.refl _ _).alloc (Nat.le_refl _) _, by simp, Lib.hid (by simp), fun o => cell_of_block (heap_alloc_self _ _) o, heap_alloc_self _ _⟩
/-- A slice that has an address, or nil. -/
def PV (v : Value) : Prop := v = .slice none 0 0 ∨ ∃ b off n c, v = .slice (some ⟨b, off, none⟩) n c
end Go.Proofs.YtikdbjaimcciiaaGreat
