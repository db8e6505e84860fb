/-
  No cell of these rows narrows 'for every input' (looked for: loops, veiled, ifaces, maps, wideKeys, modest, calm, conditions, laid).
  DERIVED. THE GIVEN ROWS OF THIS SEAT. 10 by the template 'for every input the law returns true; each argument reads behind the call as it read before'; 0 by the template 'total and deterministic' (their statements: YtbckginfipeibaaTotals.lean).
  GIVEN WITH THE SEED: the statements are not yours to turn. If you find one false, say at which input.
  Laid BY PROGRAM, IN A SANDBOX (cutbox-rows.mjs): the forced cells as the released guide's own fill.sh prints them over the translation f454149bfd2643c0… (all of the seat's roots in one cut). By AI agents, Wed Nov 11 2026. No macro, syntax, notation, axiom, sorry.
-/
import Derived.Test.YtbckginfipeibaaChecked
import GoSem.Claim
import GoSem.ClaimJoined
import GoSem.ClaimMapViews
import Derived.JoinedTies
import Derived.KernelRfl
namespace Go.Proofs.Ytbckginfipeibaa
/- THE CELL 'sum', in the pinned program and in every row, IS THE sha256 OF THE DUMP (.gsa) THAT YtbckginfipeibaaProg.lean LOADS. Nothing in Lean hashes anything: it is a label: what it is worth is what the hold of that sum in a sandbox is worth. -/
noncomputable def Try.pinned : Pinned := { name := "ytbckginfipeibaa", sum := "f454149bfd2643c09dc5f35a9a2e923209543033635406bb0e8d4013537ae9e3", checked := Try.checked }
namespace Rows
def none {H : Type} : Left H := { results := [], args := [] }

/-- 'laws.FnExactOpeningNumbers': WHATEVER THE INPUT: true; the input reads as it did. -/
def fnExactOpeningNumbersSpec : ChangeSpec := { name := "fnExactOpeningNumbers", fn := fun _ => fun
  | [d1, d2] => { results := [.lit (.bool true)], args := [d1, d2] }
  | _ => none }
def fnExactOpeningNumbersRow : OpenClaim := { program := "ytbckginfipeibaa", sum := "f454149bfd2643c09dc5f35a9a2e923209543033635406bb0e8d4013537ae9e3", func := "loop.example/g00947/laws.FnExactOpeningNumbers", spec := "fnExactOpeningNumbers", unfollowed := true, recurses := true, apart := false }
def FnExactOpeningNumbersSaid : Prop := fnExactOpeningNumbersRow.holds Try.pinned (OpenSpec.ofChange fnExactOpeningNumbersSpec)

/-- ITS FALSE NEIGHBOUR: 'it returns false'. Refute it at one input. -/
def fnExactOpeningNumbersWrong : ChangeSpec := { name := "fnExactOpeningNumbers", fn := fun _ => fun
  | [d1, d2] => { results := [.lit (.bool false)], args := [d1, d2] }
  | _ => none }
def FnExactOpeningNumbersWrongFalsely : Prop := fnExactOpeningNumbersRow.holds Try.pinned (OpenSpec.ofChange fnExactOpeningNumbersWrong)

/-- 'laws.FnExactCountByLocks': WHATEVER THE INPUT: true; the input reads as it did. -/
def fnExactCountByLocksSpec : ChangeSpec := { name := "fnExactCountByLocks", fn := fun _ => fun
  | [d1, d2] => { results := [.lit (.bool true)], args := [d1, d2] }
  | _ => none }
def fnExactCountByLocksRow : OpenClaim := { program := "ytbckginfipeibaa", sum := "f454149bfd2643c09dc5f35a9a2e923209543033635406bb0e8d4013537ae9e3", func := "loop.example/g00947/laws.FnExactCountByLocks", spec := "fnExactCountByLocks", unfollowed := true, recurses := true, apart := false }
def FnExactCountByLocksSaid : Prop := fnExactCountByLocksRow.holds Try.pinned (OpenSpec.ofChange fnExactCountByLocksSpec)

/-- ITS FALSE NEIGHBOUR: 'it returns false'. Refute it at one input. -/
def fnExactCountByLocksWrong : ChangeSpec := { name := "fnExactCountByLocks", fn := fun _ => fun
  | [d1, d2] => { results := [.lit (.bool false)], args := [d1, d2] }
  | _ => none }
def FnExactCountByLocksWrongFalsely : Prop := fnExactCountByLocksRow.holds Try.pinned (OpenSpec.ofChange fnExactCountByLocksWrong)

/-- 'laws.FnExactDoorGhosts': WHATEVER THE INPUT: true; the input reads as it did. -/
def fnExactDoorGhostsSpec : ChangeSpec := { name := "fnExactDoorGhosts", fn := fun _ => fun
  | [d1, d2, d3] => { results := [.lit (.bool true)], args := [d1, d2, d3] }
  | _ => none }
def fnExactDoorGhostsRow : OpenClaim := { program := "ytbckginfipeibaa", sum := "f454149bfd2643c09dc5f35a9a2e923209543033635406bb0e8d4013537ae9e3", func := "loop.example/g00947/laws.FnExactDoorGhosts", spec := "fnExactDoorGhosts", unfollowed := true, recurses := true, apart := false }
def FnExactDoorGhostsSaid : Prop := fnExactDoorGhostsRow.holds Try.pinned (OpenSpec.ofChange fnExactDoorGhostsSpec)

/-- ITS FALSE NEIGHBOUR: 'it returns false'. Refute it at one input. -/
def fnExactDoorGhostsWrong : ChangeSpec := { name := "fnExactDoorGhosts", fn := fun _ => fun
  | [d1, d2, d3] => { results := [.lit (.bool false)], args := [d1, d2, d3] }
  | _ => none }
def FnExactDoorGhostsWrongFalsely : Prop := fnExactDoorGhostsRow.holds Try.pinned (OpenSpec.ofChange fnExactDoorGhostsWrong)

/-- 'laws.FnExactGhostTable': WHATEVER THE INPUT: true; the input reads as it did. -/
def fnExactGhostTableSpec : ChangeSpec := { name := "fnExactGhostTable", fn := fun _ => fun
  | [d1, d2] => { results := [.lit (.bool true)], args := [d1, d2] }
  | _ => none }
def fnExactGhostTableRow : OpenClaim := { program := "ytbckginfipeibaa", sum := "f454149bfd2643c09dc5f35a9a2e923209543033635406bb0e8d4013537ae9e3", func := "loop.example/g00947/laws.FnExactGhostTable", spec := "fnExactGhostTable", unfollowed := true, recurses := true, apart := false }
def FnExactGhostTableSaid : Prop := fnExactGhostTableRow.holds Try.pinned (OpenSpec.ofChange fnExactGhostTableSpec)

/-- ITS FALSE NEIGHBOUR: 'it returns false'. Refute it at one input. -/
def fnExactGhostTableWrong : ChangeSpec := { name := "fnExactGhostTable", fn := fun _ => fun
  | [d1, d2] => { results := [.lit (.bool false)], args := [d1, d2] }
  | _ => none }
def FnExactGhostTableWrongFalsely : Prop := fnExactGhostTableRow.holds Try.pinned (OpenSpec.ofChange fnExactGhostTableWrong)

/-- 'laws.FnExactWornDoors': WHATEVER THE INPUT: true; the input reads as it did. -/
def fnExactWornDoorsSpec : ChangeSpec := { name := "fnExactWornDoors", fn := fun _ => fun
  | [d1, d2, d3, d4, d5] => { results := [.lit (.bool true)], args := [d1, d2, d3, d4, d5] }
  | _ => none }
def fnExactWornDoorsRow : OpenClaim := { program := "ytbckginfipeibaa", sum := "f454149bfd2643c09dc5f35a9a2e923209543033635406bb0e8d4013537ae9e3", func := "loop.example/g00947/laws.FnExactWornDoors", spec := "fnExactWornDoors", unfollowed := true, recurses := true, apart := false }
def FnExactWornDoorsSaid : Prop := fnExactWornDoorsRow.holds Try.pinned (OpenSpec.ofChange fnExactWornDoorsSpec)

/-- ITS FALSE NEIGHBOUR: 'it returns false'. Refute it at one input. -/
def fnExactWornDoorsWrong : ChangeSpec := { name := "fnExactWornDoors", fn := fun _ => fun
  | [d1, d2, d3, d4, d5] => { results := [.lit (.bool false)], args := [d1, d2, d3, d4, d5] }
  | _ => none }
def FnExactWornDoorsWrongFalsely : Prop := fnExactWornDoorsRow.holds Try.pinned (OpenSpec.ofChange fnExactWornDoorsWrong)

/-- 'laws.FnExactShortReason': WHATEVER THE INPUT: true; the input reads as it did. -/
def fnExactShortReasonSpec : ChangeSpec := { name := "fnExactShortReason", fn := fun _ => fun
  | [d1, d2, d3, d4] => { results := [.lit (.bool true)], args := [d1, d2, d3, d4] }
  | _ => none }
def fnExactShortReasonRow : OpenClaim := { program := "ytbckginfipeibaa", sum := "f454149bfd2643c09dc5f35a9a2e923209543033635406bb0e8d4013537ae9e3", func := "loop.example/g00947/laws.FnExactShortReason", spec := "fnExactShortReason", unfollowed := true, recurses := true, apart := false }
def FnExactShortReasonSaid : Prop := fnExactShortReasonRow.holds Try.pinned (OpenSpec.ofChange fnExactShortReasonSpec)

/-- ITS FALSE NEIGHBOUR: 'it returns false'. Refute it at one input. -/
def fnExactShortReasonWrong : ChangeSpec := { name := "fnExactShortReason", fn := fun _ => fun
  | [d1, d2, d3, d4] => { results := [.lit (.bool false)], args := [d1, d2, d3, d4] }
  | _ => none }
def FnExactShortReasonWrongFalsely : Prop := fnExactShortReasonRow.holds Try.pinned (OpenSpec.ofChange fnExactShortReasonWrong)

/-- 'laws.FnExactBlamedRows': WHATEVER THE INPUT: true; the input reads as it did. -/
def fnExactBlamedRowsSpec : ChangeSpec := { name := "fnExactBlamedRows", fn := fun _ => fun
  | [d1, d2] => { results := [.lit (.bool true)], args := [d1, d2] }
  | _ => none }
def fnExactBlamedRowsRow : OpenClaim := { program := "ytbckginfipeibaa", sum := "f454149bfd2643c09dc5f35a9a2e923209543033635406bb0e8d4013537ae9e3", func := "loop.example/g00947/laws.FnExactBlamedRows", spec := "fnExactBlamedRows", unfollowed := true, recurses := true, apart := false }
def FnExactBlamedRowsSaid : Prop := fnExactBlamedRowsRow.holds Try.pinned (OpenSpec.ofChange fnExactBlamedRowsSpec)

/-- ITS FALSE NEIGHBOUR: 'it returns false'. Refute it at one input. -/
def fnExactBlamedRowsWrong : ChangeSpec := { name := "fnExactBlamedRows", fn := fun _ => fun
  | [d1, d2] => { results := [.lit (.bool false)], args := [d1, d2] }
  | _ => none }
def FnExactBlamedRowsWrongFalsely : Prop := fnExactBlamedRowsRow.holds Try.pinned (OpenSpec.ofChange fnExactBlamedRowsWrong)

/-- 'laws.FnExactKeepRows': WHATEVER THE INPUT: true; the input reads as it did. -/
def fnExactKeepRowsSpec : ChangeSpec := { name := "fnExactKeepRows", fn := fun _ => fun
  | [d1, d2, d3] => { results := [.lit (.bool true)], args := [d1, d2, d3] }
  | _ => none }
def fnExactKeepRowsRow : OpenClaim := { program := "ytbckginfipeibaa", sum := "f454149bfd2643c09dc5f35a9a2e923209543033635406bb0e8d4013537ae9e3", func := "loop.example/g00947/laws.FnExactKeepRows", spec := "fnExactKeepRows", unfollowed := true, recurses := true, apart := false }
def FnExactKeepRowsSaid : Prop := fnExactKeepRowsRow.holds Try.pinned (OpenSpec.ofChange fnExactKeepRowsSpec)

/-- ITS FALSE NEIGHBOUR: 'it returns false'. Refute it at one input. -/
def fnExactKeepRowsWrong : ChangeSpec := { name := "fnExactKeepRows", fn := fun _ => fun
  | [d1, d2, d3] => { results := [.lit (.bool false)], args := [d1, d2, d3] }
  | _ => none }
def FnExactKeepRowsWrongFalsely : Prop := fnExactKeepRowsRow.holds Try.pinned (OpenSpec.ofChange fnExactKeepRowsWrong)

/-- 'laws.FnExactRefute': WHATEVER THE INPUT: true; the input reads as it did. -/
def fnExactRefuteSpec : ChangeSpec := { name := "fnExactRefute", fn := fun _ => fun
  | [d] => { results := [.lit (.bool true)], args := [d] }
  | _ => none }
def fnExactRefuteRow : OpenClaim := { program := "ytbckginfipeibaa", sum := "f454149bfd2643c09dc5f35a9a2e923209543033635406bb0e8d4013537ae9e3", func := "loop.example/g00947/laws.FnExactRefute", spec := "fnExactRefute", unfollowed := true, recurses := true, apart := false }
def FnExactRefuteSaid : Prop := fnExactRefuteRow.holds Try.pinned (OpenSpec.ofChange fnExactRefuteSpec)

/-- ITS FALSE NEIGHBOUR: 'it returns false'. Refute it at one input. -/
def fnExactRefuteWrong : ChangeSpec := { name := "fnExactRefute", fn := fun _ => fun
  | [d] => { results := [.lit (.bool false)], args := [d] }
  | _ => none }
def FnExactRefuteWrongFalsely : Prop := fnExactRefuteRow.holds Try.pinned (OpenSpec.ofChange fnExactRefuteWrong)

/-- 'laws.FnExactIsRefutation': WHATEVER THE INPUT: true; the input reads as it did. -/
def fnExactIsRefutationSpec : ChangeSpec := { name := "fnExactIsRefutation", fn := fun _ => fun
  | [d1, d2] => { results := [.lit (.bool true)], args := [d1, d2] }
  | _ => none }
def fnExactIsRefutationRow : OpenClaim := { program := "ytbckginfipeibaa", sum := "f454149bfd2643c09dc5f35a9a2e923209543033635406bb0e8d4013537ae9e3", func := "loop.example/g00947/laws.FnExactIsRefutation", spec := "fnExactIsRefutation", unfollowed := true, recurses := true, apart := false }
def FnExactIsRefutationSaid : Prop := fnExactIsRefutationRow.holds Try.pinned (OpenSpec.ofChange fnExactIsRefutationSpec)

/-- ITS FALSE NEIGHBOUR: 'it returns false'. Refute it at one input. -/
def fnExactIsRefutationWrong : ChangeSpec := { name := "fnExactIsRefutation", fn := fun _ => fun
  | [d1, d2] => { results := [.lit (.bool false)], args := [d1, d2] }
  | _ => none }
def FnExactIsRefutationWrongFalsely : Prop := fnExactIsRefutationRow.holds Try.pinned (OpenSpec.ofChange fnExactIsRefutationWrong)

/- THE SECOND FORM. 'bulk': how many values and letters a reading holds, each counted each time it is reached (what is shared counts as often as it is met; a slice's spare places count too). A statement '..UptoSaid' is the law's where the arguments, and the package variables that the reading takes, are together of bulk at most 1048576: NARROWER than '..Said'. Prove '..Said' where nothing that the law and all that it calls make is longer than what came in: it says more and counts as full. Else prove '..UptoSaid'. A law counts once. -/
mutual
def uptoBulk {H : Type} : DataW H → Nat
  | .lit (.string bytes) => bytes.length + 1
  | .lit _ => 1
  | .nil => 1
  | .ptr d => uptoBulk d + 1
  | .slice elems spare => uptoBulkAll elems + uptoBulkAll spare + 1
  | .agg parts => uptoBulkAll parts + 1
  | .iface _ d => uptoBulk d + 1
  | .map entries => uptoBulkEntries entries + 1
  | .held _ => 1
def uptoBulkAll {H : Type} : List (DataW H) → Nat
  | [] => 0
  | d :: r => uptoBulk d + uptoBulkAll r
def uptoBulkEntries {H : Type} : List (Lit × DataW H) → Nat
  | [] => 0
  | x :: r => uptoBulkEntry x + uptoBulkEntries r
def uptoBulkEntry {H : Type} : Lit × DataW H → Nat
  | (.string bytes, d) => bytes.length + uptoBulk d + 1
  | (_, d) => uptoBulk d + 1
 end
def uptoSmall : (H : Type) → List (DataW H) → Bool := fun _ ds => decide (uptoBulkAll ds ≤ 1048576)
def OpenSpec.upto (s : _root_.Go.ChangeSpec) : _root_.Go.OpenSpec := { _root_.Go.OpenSpec.ofChange s with cond := some uptoSmall }

/-- 'laws.FnExactOpeningNumbers', WHERE WHAT IT READS IS OF BULK AT MOST 1048576: true; the input reads as it did. -/
def fnExactOpeningNumbersUptoRow : OpenClaim := { program := "ytbckginfipeibaa", sum := "f454149bfd2643c09dc5f35a9a2e923209543033635406bb0e8d4013537ae9e3", func := "loop.example/g00947/laws.FnExactOpeningNumbers", spec := "fnExactOpeningNumbers", unfollowed := true, recurses := true, apart := false, narrowed := true }
def FnExactOpeningNumbersUptoSaid : Prop := fnExactOpeningNumbersUptoRow.holds Try.pinned (OpenSpec.upto fnExactOpeningNumbersSpec)

/-- 'laws.FnExactCountByLocks', WHERE WHAT IT READS IS OF BULK AT MOST 1048576: true; the input reads as it did. -/
def fnExactCountByLocksUptoRow : OpenClaim := { program := "ytbckginfipeibaa", sum := "f454149bfd2643c09dc5f35a9a2e923209543033635406bb0e8d4013537ae9e3", func := "loop.example/g00947/laws.FnExactCountByLocks", spec := "fnExactCountByLocks", unfollowed := true, recurses := true, apart := false, narrowed := true }
def FnExactCountByLocksUptoSaid : Prop := fnExactCountByLocksUptoRow.holds Try.pinned (OpenSpec.upto fnExactCountByLocksSpec)

/-- 'laws.FnExactDoorGhosts', WHERE WHAT IT READS IS OF BULK AT MOST 1048576: true; the input reads as it did. -/
def fnExactDoorGhostsUptoRow : OpenClaim := { program := "ytbckginfipeibaa", sum := "f454149bfd2643c09dc5f35a9a2e923209543033635406bb0e8d4013537ae9e3", func := "loop.example/g00947/laws.FnExactDoorGhosts", spec := "fnExactDoorGhosts", unfollowed := true, recurses := true, apart := false, narrowed := true }
def FnExactDoorGhostsUptoSaid : Prop := fnExactDoorGhostsUptoRow.holds Try.pinned (OpenSpec.upto fnExactDoorGhostsSpec)

/-- 'laws.FnExactGhostTable', WHERE WHAT IT READS IS OF BULK AT MOST 1048576: true; the input reads as it did. -/
def fnExactGhostTableUptoRow : OpenClaim := { program := "ytbckginfipeibaa", sum := "f454149bfd2643c09dc5f35a9a2e923209543033635406bb0e8d4013537ae9e3", func := "loop.example/g00947/laws.FnExactGhostTable", spec := "fnExactGhostTable", unfollowed := true, recurses := true, apart := false, narrowed := true }
def FnExactGhostTableUptoSaid : Prop := fnExactGhostTableUptoRow.holds Try.pinned (OpenSpec.upto fnExactGhostTableSpec)

/-- 'laws.FnExactWornDoors', WHERE WHAT IT READS IS OF BULK AT MOST 1048576: true; the input reads as it did. -/
def fnExactWornDoorsUptoRow : OpenClaim := { program := "ytbckginfipeibaa", sum := "f454149bfd2643c09dc5f35a9a2e923209543033635406bb0e8d4013537ae9e3", func := "loop.example/g00947/laws.FnExactWornDoors", spec := "fnExactWornDoors", unfollowed := true, recurses := true, apart := false, narrowed := true }
def FnExactWornDoorsUptoSaid : Prop := fnExactWornDoorsUptoRow.holds Try.pinned (OpenSpec.upto fnExactWornDoorsSpec)

/-- 'laws.FnExactShortReason', WHERE WHAT IT READS IS OF BULK AT MOST 1048576: true; the input reads as it did. -/
def fnExactShortReasonUptoRow : OpenClaim := { program := "ytbckginfipeibaa", sum := "f454149bfd2643c09dc5f35a9a2e923209543033635406bb0e8d4013537ae9e3", func := "loop.example/g00947/laws.FnExactShortReason", spec := "fnExactShortReason", unfollowed := true, recurses := true, apart := false, narrowed := true }
def FnExactShortReasonUptoSaid : Prop := fnExactShortReasonUptoRow.holds Try.pinned (OpenSpec.upto fnExactShortReasonSpec)

/-- 'laws.FnExactBlamedRows', WHERE WHAT IT READS IS OF BULK AT MOST 1048576: true; the input reads as it did. -/
def fnExactBlamedRowsUptoRow : OpenClaim := { program := "ytbckginfipeibaa", sum := "f454149bfd2643c09dc5f35a9a2e923209543033635406bb0e8d4013537ae9e3", func := "loop.example/g00947/laws.FnExactBlamedRows", spec := "fnExactBlamedRows", unfollowed := true, recurses := true, apart := false, narrowed := true }
def FnExactBlamedRowsUptoSaid : Prop := fnExactBlamedRowsUptoRow.holds Try.pinned (OpenSpec.upto fnExactBlamedRowsSpec)

/-- 'laws.FnExactKeepRows', WHERE WHAT IT READS IS OF BULK AT MOST 1048576: true; the input reads as it did. -/
def fnExactKeepRowsUptoRow : OpenClaim := { program := "ytbckginfipeibaa", sum := "f454149bfd2643c09dc5f35a9a2e923209543033635406bb0e8d4013537ae9e3", func := "loop.example/g00947/laws.FnExactKeepRows", spec := "fnExactKeepRows", unfollowed := true, recurses := true, apart := false, narrowed := true }
def FnExactKeepRowsUptoSaid : Prop := fnExactKeepRowsUptoRow.holds Try.pinned (OpenSpec.upto fnExactKeepRowsSpec)

/-- 'laws.FnExactRefute', WHERE WHAT IT READS IS OF BULK AT MOST 1048576: true; the input reads as it did. -/
def fnExactRefuteUptoRow : OpenClaim := { program := "ytbckginfipeibaa", sum := "f454149bfd2643c09dc5f35a9a2e923209543033635406bb0e8d4013537ae9e3", func := "loop.example/g00947/laws.FnExactRefute", spec := "fnExactRefute", unfollowed := true, recurses := true, apart := false, narrowed := true }
def FnExactRefuteUptoSaid : Prop := fnExactRefuteUptoRow.holds Try.pinned (OpenSpec.upto fnExactRefuteSpec)

/-- 'laws.FnExactIsRefutation', WHERE WHAT IT READS IS OF BULK AT MOST 1048576: true; the input reads as it did. -/
def fnExactIsRefutationUptoRow : OpenClaim := { program := "ytbckginfipeibaa", sum := "f454149bfd2643c09dc5f35a9a2e923209543033635406bb0e8d4013537ae9e3", func := "loop.example/g00947/laws.FnExactIsRefutation", spec := "fnExactIsRefutation", unfollowed := true, recurses := true, apart := false, narrowed := true }
def FnExactIsRefutationUptoSaid : Prop := fnExactIsRefutationUptoRow.holds Try.pinned (OpenSpec.upto fnExactIsRefutationSpec)

end Rows
end Go.Proofs.Ytbckginfipeibaa
