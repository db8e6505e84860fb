/- How many keys a maker has, as the program tells it. No conditions. -/
import Derived.Test.YtmfgdoflddhngaaGreatMEach5
namespace Go.Proofs.YtmfgdoflddhngaaGreat
open Go.RowKit
set_option linter.unusedVariables false
set_option linter.unusedSimpArgs false

theorem isMaker_b (m : Mk) (W : World) (r : Bool) (hr : m.ok = r) :
    Calls Tryz.prog 149 #[.agg #[.int .i64 m.c, .int .i64 m.d, .int .i64 m.s, .int .i64 m.e, .int .i64 m.l]] W fun e' w' => e' = .returned (.bool r) ∧ Below W.heap.size W w' := by subst hr; exact isMaker_any m.c m.d m.s m.e m.l W
theorem CountKeys_any (m : Mk) (hm : m.ok = true) (W : World) :
    Calls Tryz.prog 52 #[.agg #[.int .i64 m.c, .int .i64 m.d, .int .i64 m.s, .int .i64 m.e, .int .i64 m.l]] W fun e' w' => e' = .returned (.tuple #[.int .i64 ((keysOf m).length : Int), .int .i64 0]) ∧ Below W.heap.size W w' := by
  have Hm := Lib.hid hm; clear hm
  obtain ⟨W1, hW1, hB01, hz01, HZ01, hc01, hh01⟩ := box_facts W #[.int .i64 m.c, .int .i64 m.d, .int .i64 m.s, .int .i64 m.e, .int .i64 m.l] 25
  clear hh01
  go_enter Tryz.func52, Tryz.ntmps52
  go_wp2_with fail
  rw [← hW1]
  refine (isMaker_b m W1 true Hm.out).mono ?_
  rintro e' w2 ⟨rfl, hb2⟩
  have hx2 : ∀ o, w2.cell? ⟨W.heap.size, o, none⟩ = (#[.int .i64 m.c, .int .i64 m.d, .int .i64 m.s, .int .i64 m.e, .int .i64 m.l] : Array Value)[o]? := fun o => by rw [(bcell hb2).1 _ _ hz01, hc01]
  clear hc01
  go_wp2_with fail
  refine (countAll_any m Hm.out _).mono ?_
  rintro e' w3 ⟨rfl, hb3⟩
  clear hx2
  go_wp2_with fail
  go_ret2
  exact ⟨rfl, hB01.trans ((hb2.trans (hb3.mono hb2.size)).mono (by omega))⟩
end Go.Proofs.YtmfgdoflddhngaaGreat
