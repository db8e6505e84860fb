/-
  No cell of these rows narrows 'for every input' (looked for: loops, veiled, ifaces, maps, wideKeys, modest, calm, conditions, laid).
  DERIVED. THE GIVEN ROWS OF THIS SEAT. 6 by the template 'for every input the law returns true; each argument reads behind the call as it read before'; 0 by the template 'total and deterministic' (their statements: YtjkfgldmeenmjaaTotals.lean).
  GIVEN WITH THE SEED: the statements are not yours to turn. If you find one false, say at which input.
  Laid BY PROGRAM, IN A SANDBOX (cutbox-rows.mjs): the forced cells as the released guide's own fill.sh prints them over the translation 557bbf6563f925d5… (all of the seat's roots in one cut). By AI agents, Wed Nov 11 2026. No macro, syntax, notation, axiom, sorry.
-/
import Derived.Test.YtjkfgldmeenmjaaChecked
import GoSem.Claim
import GoSem.ClaimJoined
import GoSem.ClaimMapViews
import Derived.JoinedTies
import Derived.KernelRfl
namespace Go.Proofs.Ytjkfgldmeenmjaa
/- THE CELL 'sum', in the pinned program and in every row, IS THE sha256 OF THE DUMP (.gsa) THAT YtjkfgldmeenmjaaProg.lean LOADS. Nothing in Lean hashes anything: it is a label: what it is worth is what the hold of that sum in a sandbox is worth. -/
noncomputable def Try.pinned : Pinned := { name := "ytjkfgldmeenmjaa", sum := "557bbf6563f925d5c62458af162cb7defa1a8cbeb97316b203571285f8b6cf19", checked := Try.checked }
namespace Rows
def none {H : Type} : Left H := { results := [], args := [] }

/-- 'laws.FnExactBlamedRows': WHATEVER THE INPUT: true; the input reads as it did. -/
def fnExactBlamedRowsSpec : ChangeSpec := { name := "fnExactBlamedRows", fn := fun _ => fun
  | [d1, d2] => { results := [.lit (.bool true)], args := [d1, d2] }
  | _ => none }
def fnExactBlamedRowsRow : OpenClaim := { program := "ytjkfgldmeenmjaa", sum := "557bbf6563f925d5c62458af162cb7defa1a8cbeb97316b203571285f8b6cf19", func := "loop.example/g00947/laws.FnExactBlamedRows", spec := "fnExactBlamedRows", unfollowed := true, recurses := true, apart := false }
def FnExactBlamedRowsSaid : Prop := fnExactBlamedRowsRow.holds Try.pinned (OpenSpec.ofChange fnExactBlamedRowsSpec)

/-- ITS FALSE NEIGHBOUR: 'it returns false'. Refute it at one input. -/
def fnExactBlamedRowsWrong : ChangeSpec := { name := "fnExactBlamedRows", fn := fun _ => fun
  | [d1, d2] => { results := [.lit (.bool false)], args := [d1, d2] }
  | _ => none }
def FnExactBlamedRowsWrongFalsely : Prop := fnExactBlamedRowsRow.holds Try.pinned (OpenSpec.ofChange fnExactBlamedRowsWrong)

/-- 'laws.FnExactKeepRows': WHATEVER THE INPUT: true; the input reads as it did. -/
def fnExactKeepRowsSpec : ChangeSpec := { name := "fnExactKeepRows", fn := fun _ => fun
  | [d1, d2, d3] => { results := [.lit (.bool true)], args := [d1, d2, d3] }
  | _ => none }
def fnExactKeepRowsRow : OpenClaim := { program := "ytjkfgldmeenmjaa", sum := "557bbf6563f925d5c62458af162cb7defa1a8cbeb97316b203571285f8b6cf19", func := "loop.example/g00947/laws.FnExactKeepRows", spec := "fnExactKeepRows", unfollowed := true, recurses := true, apart := false }
def FnExactKeepRowsSaid : Prop := fnExactKeepRowsRow.holds Try.pinned (OpenSpec.ofChange fnExactKeepRowsSpec)

/-- ITS FALSE NEIGHBOUR: 'it returns false'. Refute it at one input. -/
def fnExactKeepRowsWrong : ChangeSpec := { name := "fnExactKeepRows", fn := fun _ => fun
  | [d1, d2, d3] => { results := [.lit (.bool false)], args := [d1, d2, d3] }
  | _ => none }
def FnExactKeepRowsWrongFalsely : Prop := fnExactKeepRowsRow.holds Try.pinned (OpenSpec.ofChange fnExactKeepRowsWrong)

/-- 'laws.FnExactRefute': WHATEVER THE INPUT: true; the input reads as it did. -/
def fnExactRefuteSpec : ChangeSpec := { name := "fnExactRefute", fn := fun _ => fun
  | [d] => { results := [.lit (.bool true)], args := [d] }
  | _ => none }
def fnExactRefuteRow : OpenClaim := { program := "ytjkfgldmeenmjaa", sum := "557bbf6563f925d5c62458af162cb7defa1a8cbeb97316b203571285f8b6cf19", func := "loop.example/g00947/laws.FnExactRefute", spec := "fnExactRefute", unfollowed := true, recurses := true, apart := false }
def FnExactRefuteSaid : Prop := fnExactRefuteRow.holds Try.pinned (OpenSpec.ofChange fnExactRefuteSpec)

/-- ITS FALSE NEIGHBOUR: 'it returns false'. Refute it at one input. -/
def fnExactRefuteWrong : ChangeSpec := { name := "fnExactRefute", fn := fun _ => fun
  | [d] => { results := [.lit (.bool false)], args := [d] }
  | _ => none }
def FnExactRefuteWrongFalsely : Prop := fnExactRefuteRow.holds Try.pinned (OpenSpec.ofChange fnExactRefuteWrong)

/-- 'laws.FnExactIsRefutation': WHATEVER THE INPUT: true; the input reads as it did. -/
def fnExactIsRefutationSpec : ChangeSpec := { name := "fnExactIsRefutation", fn := fun _ => fun
  | [d1, d2] => { results := [.lit (.bool true)], args := [d1, d2] }
  | _ => none }
def fnExactIsRefutationRow : OpenClaim := { program := "ytjkfgldmeenmjaa", sum := "557bbf6563f925d5c62458af162cb7defa1a8cbeb97316b203571285f8b6cf19", func := "loop.example/g00947/laws.FnExactIsRefutation", spec := "fnExactIsRefutation", unfollowed := true, recurses := true, apart := false }
def FnExactIsRefutationSaid : Prop := fnExactIsRefutationRow.holds Try.pinned (OpenSpec.ofChange fnExactIsRefutationSpec)

/-- ITS FALSE NEIGHBOUR: 'it returns false'. Refute it at one input. -/
def fnExactIsRefutationWrong : ChangeSpec := { name := "fnExactIsRefutation", fn := fun _ => fun
  | [d1, d2] => { results := [.lit (.bool false)], args := [d1, d2] }
  | _ => none }
def FnExactIsRefutationWrongFalsely : Prop := fnExactIsRefutationRow.holds Try.pinned (OpenSpec.ofChange fnExactIsRefutationWrong)

/-- 'laws.FnExactReadSteps': WHATEVER THE INPUT: true; the input reads as it did. -/
def fnExactReadStepsSpec : ChangeSpec := { name := "fnExactReadSteps", fn := fun _ => fun
  | [d1, d2] => { results := [.lit (.bool true)], args := [d1, d2] }
  | _ => none }
def fnExactReadStepsRow : OpenClaim := { program := "ytjkfgldmeenmjaa", sum := "557bbf6563f925d5c62458af162cb7defa1a8cbeb97316b203571285f8b6cf19", func := "loop.example/g00947/laws.FnExactReadSteps", spec := "fnExactReadSteps", unfollowed := true, recurses := true, apart := false }
def FnExactReadStepsSaid : Prop := fnExactReadStepsRow.holds Try.pinned (OpenSpec.ofChange fnExactReadStepsSpec)

/-- ITS FALSE NEIGHBOUR: 'it returns false'. Refute it at one input. -/
def fnExactReadStepsWrong : ChangeSpec := { name := "fnExactReadSteps", fn := fun _ => fun
  | [d1, d2] => { results := [.lit (.bool false)], args := [d1, d2] }
  | _ => none }
def FnExactReadStepsWrongFalsely : Prop := fnExactReadStepsRow.holds Try.pinned (OpenSpec.ofChange fnExactReadStepsWrong)

/-- 'laws.FnExactShiftSteps': WHATEVER THE INPUT: true; the input reads as it did. -/
def fnExactShiftStepsSpec : ChangeSpec := { name := "fnExactShiftSteps", fn := fun _ => fun
  | [d1, d2] => { results := [.lit (.bool true)], args := [d1, d2] }
  | _ => none }
def fnExactShiftStepsRow : OpenClaim := { program := "ytjkfgldmeenmjaa", sum := "557bbf6563f925d5c62458af162cb7defa1a8cbeb97316b203571285f8b6cf19", func := "loop.example/g00947/laws.FnExactShiftSteps", spec := "fnExactShiftSteps", unfollowed := true, recurses := true, apart := false }
def FnExactShiftStepsSaid : Prop := fnExactShiftStepsRow.holds Try.pinned (OpenSpec.ofChange fnExactShiftStepsSpec)

/-- ITS FALSE NEIGHBOUR: 'it returns false'. Refute it at one input. -/
def fnExactShiftStepsWrong : ChangeSpec := { name := "fnExactShiftSteps", fn := fun _ => fun
  | [d1, d2] => { results := [.lit (.bool false)], args := [d1, d2] }
  | _ => none }
def FnExactShiftStepsWrongFalsely : Prop := fnExactShiftStepsRow.holds Try.pinned (OpenSpec.ofChange fnExactShiftStepsWrong)

/- THE SECOND FORM. 'bulk': how many values and letters a reading holds, each counted each time it is reached (what is shared counts as often as it is met; a slice's spare places count too). A statement '..UptoSaid' is the law's where the arguments, and the package variables that the reading takes, are together of bulk at most 1048576: NARROWER than '..Said'. Prove '..Said' where nothing that the law and all that it calls make is longer than what came in: it says more and counts as full. Else prove '..UptoSaid'. A law counts once. -/
mutual
def uptoBulk {H : Type} : DataW H → Nat
  | .lit (.string bytes) => bytes.length + 1
  | .lit _ => 1
  | .nil => 1
  | .ptr d => uptoBulk d + 1
  | .slice elems spare => uptoBulkAll elems + uptoBulkAll spare + 1
  | .agg parts => uptoBulkAll parts + 1
  | .iface _ d => uptoBulk d + 1
  | .map entries => uptoBulkEntries entries + 1
  | .held _ => 1
def uptoBulkAll {H : Type} : List (DataW H) → Nat
  | [] => 0
  | d :: r => uptoBulk d + uptoBulkAll r
def uptoBulkEntries {H : Type} : List (Lit × DataW H) → Nat
  | [] => 0
  | x :: r => uptoBulkEntry x + uptoBulkEntries r
def uptoBulkEntry {H : Type} : Lit × DataW H → Nat
  | (.string bytes, d) => bytes.length + uptoBulk d + 1
  | (_, d) => uptoBulk d + 1
 end
def uptoSmall : (H : Type) → List (DataW H) → Bool := fun _ ds => decide (uptoBulkAll ds ≤ 1048576)
def OpenSpec.upto (s : _root_.Go.ChangeSpec) : _root_.Go.OpenSpec := { _root_.Go.OpenSpec.ofChange s with cond := some uptoSmall }

/-- 'laws.FnExactBlamedRows', WHERE WHAT IT READS IS OF BULK AT MOST 1048576: true; the input reads as it did. -/
def fnExactBlamedRowsUptoRow : OpenClaim := { program := "ytjkfgldmeenmjaa", sum := "557bbf6563f925d5c62458af162cb7defa1a8cbeb97316b203571285f8b6cf19", func := "loop.example/g00947/laws.FnExactBlamedRows", spec := "fnExactBlamedRows", unfollowed := true, recurses := true, apart := false, narrowed := true }
def FnExactBlamedRowsUptoSaid : Prop := fnExactBlamedRowsUptoRow.holds Try.pinned (OpenSpec.upto fnExactBlamedRowsSpec)

/-- 'laws.FnExactKeepRows', WHERE WHAT IT READS IS OF BULK AT MOST 1048576: true; the input reads as it did. -/
def fnExactKeepRowsUptoRow : OpenClaim := { program := "ytjkfgldmeenmjaa", sum := "557bbf6563f925d5c62458af162cb7defa1a8cbeb97316b203571285f8b6cf19", func := "loop.example/g00947/laws.FnExactKeepRows", spec := "fnExactKeepRows", unfollowed := true, recurses := true, apart := false, narrowed := true }
def FnExactKeepRowsUptoSaid : Prop := fnExactKeepRowsUptoRow.holds Try.pinned (OpenSpec.upto fnExactKeepRowsSpec)

/-- 'laws.FnExactRefute', WHERE WHAT IT READS IS OF BULK AT MOST 1048576: true; the input reads as it did. -/
def fnExactRefuteUptoRow : OpenClaim := { program := "ytjkfgldmeenmjaa", sum := "557bbf6563f925d5c62458af162cb7defa1a8cbeb97316b203571285f8b6cf19", func := "loop.example/g00947/laws.FnExactRefute", spec := "fnExactRefute", unfollowed := true, recurses := true, apart := false, narrowed := true }
def FnExactRefuteUptoSaid : Prop := fnExactRefuteUptoRow.holds Try.pinned (OpenSpec.upto fnExactRefuteSpec)

/-- 'laws.FnExactIsRefutation', WHERE WHAT IT READS IS OF BULK AT MOST 1048576: true; the input reads as it did. -/
def fnExactIsRefutationUptoRow : OpenClaim := { program := "ytjkfgldmeenmjaa", sum := "557bbf6563f925d5c62458af162cb7defa1a8cbeb97316b203571285f8b6cf19", func := "loop.example/g00947/laws.FnExactIsRefutation", spec := "fnExactIsRefutation", unfollowed := true, recurses := true, apart := false, narrowed := true }
def FnExactIsRefutationUptoSaid : Prop := fnExactIsRefutationUptoRow.holds Try.pinned (OpenSpec.upto fnExactIsRefutationSpec)

/-- 'laws.FnExactReadSteps', WHERE WHAT IT READS IS OF BULK AT MOST 1048576: true; the input reads as it did. -/
def fnExactReadStepsUptoRow : OpenClaim := { program := "ytjkfgldmeenmjaa", sum := "557bbf6563f925d5c62458af162cb7defa1a8cbeb97316b203571285f8b6cf19", func := "loop.example/g00947/laws.FnExactReadSteps", spec := "fnExactReadSteps", unfollowed := true, recurses := true, apart := false, narrowed := true }
def FnExactReadStepsUptoSaid : Prop := fnExactReadStepsUptoRow.holds Try.pinned (OpenSpec.upto fnExactReadStepsSpec)

/-- 'laws.FnExactShiftSteps', WHERE WHAT IT READS IS OF BULK AT MOST 1048576: true; the input reads as it did. -/
def fnExactShiftStepsUptoRow : OpenClaim := { program := "ytjkfgldmeenmjaa", sum := "557bbf6563f925d5c62458af162cb7defa1a8cbeb97316b203571285f8b6cf19", func := "loop.example/g00947/laws.FnExactShiftSteps", spec := "fnExactShiftSteps", unfollowed := true, recurses := true, apart := false, narrowed := true }
def FnExactShiftStepsUptoSaid : Prop := fnExactShiftStepsUptoRow.holds Try.pinned (OpenSpec.upto fnExactShiftStepsSpec)

end Rows
end Go.Proofs.Ytjkfgldmeenmjaa
