/- make of a slice at a step of a region that draws its order. No conditions. -/
import Derived.Test.YtbckginfipeibaaOwn
namespace Go.Proofs.Ytbckginfipeibaa
open Go.RowKit
set_option linter.unusedVariables false
set_option linter.unusedSimpArgs false

theorem step_mk {P : Program} (w : World) {ops : Array Oper} {o : Oper} {a : Act} {K : Act → World → Prop} {Q : Exit → Act → World → Prop} {E : Prop}
    (hg : o.guard = none) (l c : Operand) (t : TypeId) (hop : o.op = Op.makeSlice t l c)
    (e : TypeId) (z : Value) (size bytes : Nat) (h1 : P.underlying t = some (.slice e)) (h2 : (P.info? e).map (fun i => (i.zero, i.size, i.bytes)) = some (some z, size, bytes))
    (n : Nat) (hl : a.eval l = .int .i64 (n : Int)) (hc : a.eval c = .int .i64 (n : Int)) (b2 : bytes * n ≤ 281474976710656) (b3 : n ≤ 9223372036854775807)
    (hK : ∀ w' cs, w'.heap[w.heap.size]? = some (.cells cs e (0, 0)) → cs.size = n * size → cs.toList = (madeCells z.cells (n * size)).toList → Below w.heap.size w w' → w.heap.size < w'.heap.size → K (a.put o.dst (.slice (some ⟨w.heap.size, 0, none⟩) n n)) w') :
    if Region.wanted o (yielded ops a.tmps) = true then Oper.wp P o a w K Q else E := by
  have hw : Region.wanted o (yielded ops a.tmps) = true := by simp [Region.wanted, hg]
  rw [if_pos hw]
  obtain ⟨i, hi, hz0, hz1, hz2⟩ := info_parts h2
  obtain ⟨w', hrun, hown, hgrow⟩ := run_make_full (P := P) w w.heap.size t e i z size h1 hi hz0 hz1 .i64 .i64 n (by rw [hz2]; exact b2) (by unfold maxLen; omega) (Nat.le_refl _)
  unfold Oper.wp
  simp [execOp, hop, hl, hc, hrun, Result.andThen]
  obtain ⟨hlen, ⟨hv, _⟩ | ⟨g, cap, cur, hv, hg1, hh, _, _, hs, htake⟩⟩ := hown
  · cases hv
  · simp at hv
    obtain ⟨rfl, rfl⟩ := hv
    have ht : cur.toList = (madeCells z.cells (n * size)).toList := by
      rw [← htake, List.take_of_length_le]
      simp [hs]
    exact hK w' cur hh hs ht ((Below.refl _ _).grown hgrow (Nat.le_refl _) (fun k hk => by cases hk)) (lt_of_heap hh)
end Go.Proofs.Ytbckginfipeibaa
