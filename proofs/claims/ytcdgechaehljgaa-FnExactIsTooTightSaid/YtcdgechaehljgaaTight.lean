/- What the program and the reference answer on tight systems. No conditions. -/
import Derived.Test.YtcdgechaehljgaaSpare
namespace Go.Proofs.Ytcdgechaehljgaa
open Go.RowKit
set_option linter.unusedVariables false
set_option linter.unusedSimpArgs false

def tightAns (m : Mk) (t : List (List Int)) : Bool × Int := (decide ((spareAns m t).1 < 0), (spareAns m t).2)
theorem spareAns_code (m : Mk) (t : List (List Int)) : (spareAns m t).2 = 0 ∨ ((spareAns m t).2 = 1 ∧ (spareAns m t).1 = 0) := by
  unfold spareAns; split
  · exact .inl rfl
  · exact .inr ⟨rfl, rfl⟩
set_option maxRecDepth 100000 in
theorem IsTooTight_any {S : Nat → Prop} (m : Mk) (u : Value) (t : List (List Int)) (W : World) (h : V2 S W u t) :
    Calls Try.prog 23 #[.agg #[.int .i64 m.c, .int .i64 m.d, .int .i64 m.s, .int .i64 m.e, .int .i64 m.l, u]] W fun e' w' => e' = .returned (.tuple #[.bool (tightAns m t).1, .int .i64 (tightAns m t).2]) ∧ Below W.heap.size W w' := by
  have hV := h
  obtain ⟨a, c, rfl, hmx⟩ := h.form
  obtain ⟨W1, hW1, hB01, hz01, HZ01, hc01, hh01⟩ := box_facts W #[.int .i64 m.c, .int .i64 m.d, .int .i64 m.s, .int .i64 m.e, .int .i64 m.l, .slice a t.length c] 32
  have hV1 : V2 (fun _ => True) W1 (.slice a t.length c) t := (hV.below hB01).mono (fun _ _ _ => trivial) (fun _ _ _ => rfl)
  unfold tightAns
  have hS := SpareKeys_any m _ t W1 hV1
  generalize spareAns m t = r at *
  obtain ⟨n, k⟩ := r
  go_enter Try.func23, Try.ntmps23
  go_wp2_with fail
  rw [← hW1]
  refine hS.mono ?_
  rintro e' w2 ⟨rfl, hb2⟩
  clear hc01 hh01
  go_wp2_with fail
  go_ret2
  exact ⟨rfl, hB01.trans (hb2.mono (by omega))⟩
set_option maxRecDepth 100000 in
theorem IsTooTightR_any {S : Nat → Prop} (m : Mk) (u : Value) (t : List (List Int)) (W : World) (h : V2 S W u t) :
    Calls Try.prog 22 #[.agg #[.int .i64 m.c, .int .i64 m.d, .int .i64 m.s, .int .i64 m.e, .int .i64 m.l, u]] W fun e' w' => e' = .returned (.tuple #[.bool (tightAns m t).1, .int .i64 (tightAns m t).2]) ∧ Below W.heap.size W w' := by
  have hV := h
  obtain ⟨a, c, rfl, hmx⟩ := h.form
  obtain ⟨W1, hW1, hB01, hz01, HZ01, hc01, hh01⟩ := box_facts W #[.int .i64 m.c, .int .i64 m.d, .int .i64 m.s, .int .i64 m.e, .int .i64 m.l, .slice a t.length c] 32
  have hV1 : V2 (fun _ => True) W1 (.slice a t.length c) t := (hV.below hB01).mono (fun _ _ _ => trivial) (fun _ _ _ => rfl)
  unfold tightAns
  have hS := SpareKeysR_any m _ t W1 hV1
  have hcode := spareAns_code m t
  generalize spareAns m t = r at *
  obtain ⟨n, k⟩ := r
  simp only at hcode
  rcases hcode with rfl | ⟨rfl, rfl⟩
  all_goals
    go_enter Try.func22, Try.ntmps22
    go_wp2_with fail
    rw [← hW1]
    refine hS.mono ?_
    rintro e' w2 ⟨rfl, hb2⟩
    clear hc01 hh01
    go_wp2_with fail
    go_ret2
    exact ⟨rfl, hB01.trans (hb2.mono (by omega))⟩
end Go.Proofs.Ytcdgechaehljgaa
