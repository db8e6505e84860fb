/-
  No cell of these rows narrows 'for every input' (looked for: loops, veiled, ifaces, maps, wideKeys, modest, calm, conditions, laid).
  DERIVED. THE GIVEN ROWS OF THIS SEAT. 7 by the template 'for every input the law returns true; each argument reads behind the call as it read before'; 0 by the template 'total and deterministic' (their statements: YtlfnadmbelngeaaTotals.lean).
  GIVEN WITH THE SEED: the statements are not yours to turn. If you find one false, say at which input.
  Laid BY PROGRAM, IN A SANDBOX (cutbox-rows.mjs): the forced cells as the released guide's own fill.sh prints them over the translation ce0498240fa64b22… (all of the seat's roots in one cut). By AI agents, Wed Nov 11 2026. No macro, syntax, notation, axiom, sorry.
-/
import Derived.Test.YtlfnadmbelngeaaChecked
import GoSem.Claim
import GoSem.ClaimJoined
import GoSem.ClaimMapViews
import Derived.JoinedTies
import Derived.KernelRfl
namespace Go.Proofs.Ytlfnadmbelngeaa
/- THE CELL 'sum', in the pinned program and in every row, IS THE sha256 OF THE DUMP (.gsa) THAT YtlfnadmbelngeaaProg.lean LOADS. Nothing in Lean hashes anything: it is a label: what it is worth is what the hold of that sum in a sandbox is worth. -/
noncomputable def Try.pinned : Pinned := { name := "ytlfnadmbelngeaa", sum := "ce0498240fa64b226bdfcf24d3d833bf13218c30ad6d247997fec82a75abf6b0", checked := Try.checked }
namespace Rows
def none {H : Type} : Left H := { results := [], args := [] }

/-- 'laws.FnExactSeverityOf': WHATEVER THE INPUT: true; the input reads as it did. -/
def fnExactSeverityOfSpec : ChangeSpec := { name := "fnExactSeverityOf", fn := fun _ => fun
  | [d1, d2, d3] => { results := [.lit (.bool true)], args := [d1, d2, d3] }
  | _ => none }
def fnExactSeverityOfRow : OpenClaim := { program := "ytlfnadmbelngeaa", sum := "ce0498240fa64b226bdfcf24d3d833bf13218c30ad6d247997fec82a75abf6b0", func := "loop.example/g00947/laws.FnExactSeverityOf", spec := "fnExactSeverityOf", unfollowed := true, recurses := true, apart := false }
def FnExactSeverityOfSaid : Prop := fnExactSeverityOfRow.holds Try.pinned (OpenSpec.ofChange fnExactSeverityOfSpec)

/-- ITS FALSE NEIGHBOUR: 'it returns false'. Refute it at one input. -/
def fnExactSeverityOfWrong : ChangeSpec := { name := "fnExactSeverityOf", fn := fun _ => fun
  | [d1, d2, d3] => { results := [.lit (.bool false)], args := [d1, d2, d3] }
  | _ => none }
def FnExactSeverityOfWrongFalsely : Prop := fnExactSeverityOfRow.holds Try.pinned (OpenSpec.ofChange fnExactSeverityOfWrong)

/-- 'laws.FnExactCountByLocks': WHATEVER THE INPUT: true; the input reads as it did. -/
def fnExactCountByLocksSpec : ChangeSpec := { name := "fnExactCountByLocks", fn := fun _ => fun
  | [d1, d2] => { results := [.lit (.bool true)], args := [d1, d2] }
  | _ => none }
def fnExactCountByLocksRow : OpenClaim := { program := "ytlfnadmbelngeaa", sum := "ce0498240fa64b226bdfcf24d3d833bf13218c30ad6d247997fec82a75abf6b0", func := "loop.example/g00947/laws.FnExactCountByLocks", spec := "fnExactCountByLocks", unfollowed := true, recurses := true, apart := false }
def FnExactCountByLocksSaid : Prop := fnExactCountByLocksRow.holds Try.pinned (OpenSpec.ofChange fnExactCountByLocksSpec)

/-- ITS FALSE NEIGHBOUR: 'it returns false'. Refute it at one input. -/
def fnExactCountByLocksWrong : ChangeSpec := { name := "fnExactCountByLocks", fn := fun _ => fun
  | [d1, d2] => { results := [.lit (.bool false)], args := [d1, d2] }
  | _ => none }
def FnExactCountByLocksWrongFalsely : Prop := fnExactCountByLocksRow.holds Try.pinned (OpenSpec.ofChange fnExactCountByLocksWrong)

/-- 'laws.FnExactDoorGhosts': WHATEVER THE INPUT: true; the input reads as it did. -/
def fnExactDoorGhostsSpec : ChangeSpec := { name := "fnExactDoorGhosts", fn := fun _ => fun
  | [d1, d2, d3] => { results := [.lit (.bool true)], args := [d1, d2, d3] }
  | _ => none }
def fnExactDoorGhostsRow : OpenClaim := { program := "ytlfnadmbelngeaa", sum := "ce0498240fa64b226bdfcf24d3d833bf13218c30ad6d247997fec82a75abf6b0", func := "loop.example/g00947/laws.FnExactDoorGhosts", spec := "fnExactDoorGhosts", unfollowed := true, recurses := true, apart := false }
def FnExactDoorGhostsSaid : Prop := fnExactDoorGhostsRow.holds Try.pinned (OpenSpec.ofChange fnExactDoorGhostsSpec)

/-- ITS FALSE NEIGHBOUR: 'it returns false'. Refute it at one input. -/
def fnExactDoorGhostsWrong : ChangeSpec := { name := "fnExactDoorGhosts", fn := fun _ => fun
  | [d1, d2, d3] => { results := [.lit (.bool false)], args := [d1, d2, d3] }
  | _ => none }
def FnExactDoorGhostsWrongFalsely : Prop := fnExactDoorGhostsRow.holds Try.pinned (OpenSpec.ofChange fnExactDoorGhostsWrong)

/-- 'laws.FnExactOpeningNumbers': WHATEVER THE INPUT: true; the input reads as it did. -/
def fnExactOpeningNumbersSpec : ChangeSpec := { name := "fnExactOpeningNumbers", fn := fun _ => fun
  | [d1, d2] => { results := [.lit (.bool true)], args := [d1, d2] }
  | _ => none }
def fnExactOpeningNumbersRow : OpenClaim := { program := "ytlfnadmbelngeaa", sum := "ce0498240fa64b226bdfcf24d3d833bf13218c30ad6d247997fec82a75abf6b0", func := "loop.example/g00947/laws.FnExactOpeningNumbers", spec := "fnExactOpeningNumbers", unfollowed := true, recurses := true, apart := false }
def FnExactOpeningNumbersSaid : Prop := fnExactOpeningNumbersRow.holds Try.pinned (OpenSpec.ofChange fnExactOpeningNumbersSpec)

/-- ITS FALSE NEIGHBOUR: 'it returns false'. Refute it at one input. -/
def fnExactOpeningNumbersWrong : ChangeSpec := { name := "fnExactOpeningNumbers", fn := fun _ => fun
  | [d1, d2] => { results := [.lit (.bool false)], args := [d1, d2] }
  | _ => none }
def FnExactOpeningNumbersWrongFalsely : Prop := fnExactOpeningNumbersRow.holds Try.pinned (OpenSpec.ofChange fnExactOpeningNumbersWrong)

/-- 'laws.FnExactCountSystemGhosts': WHATEVER THE INPUT: true; the input reads as it did. -/
def fnExactCountSystemGhostsSpec : ChangeSpec := { name := "fnExactCountSystemGhosts", fn := fun _ => fun
  | [d1, d2] => { results := [.lit (.bool true)], args := [d1, d2] }
  | _ => none }
def fnExactCountSystemGhostsRow : OpenClaim := { program := "ytlfnadmbelngeaa", sum := "ce0498240fa64b226bdfcf24d3d833bf13218c30ad6d247997fec82a75abf6b0", func := "loop.example/g00947/laws.FnExactCountSystemGhosts", spec := "fnExactCountSystemGhosts", unfollowed := true, recurses := true, apart := false }
def FnExactCountSystemGhostsSaid : Prop := fnExactCountSystemGhostsRow.holds Try.pinned (OpenSpec.ofChange fnExactCountSystemGhostsSpec)

/-- ITS FALSE NEIGHBOUR: 'it returns false'. Refute it at one input. -/
def fnExactCountSystemGhostsWrong : ChangeSpec := { name := "fnExactCountSystemGhosts", fn := fun _ => fun
  | [d1, d2] => { results := [.lit (.bool false)], args := [d1, d2] }
  | _ => none }
def FnExactCountSystemGhostsWrongFalsely : Prop := fnExactCountSystemGhostsRow.holds Try.pinned (OpenSpec.ofChange fnExactCountSystemGhostsWrong)

/-- 'laws.FnExactGhostTable': WHATEVER THE INPUT: true; the input reads as it did. -/
def fnExactGhostTableSpec : ChangeSpec := { name := "fnExactGhostTable", fn := fun _ => fun
  | [d1, d2] => { results := [.lit (.bool true)], args := [d1, d2] }
  | _ => none }
def fnExactGhostTableRow : OpenClaim := { program := "ytlfnadmbelngeaa", sum := "ce0498240fa64b226bdfcf24d3d833bf13218c30ad6d247997fec82a75abf6b0", func := "loop.example/g00947/laws.FnExactGhostTable", spec := "fnExactGhostTable", unfollowed := true, recurses := true, apart := false }
def FnExactGhostTableSaid : Prop := fnExactGhostTableRow.holds Try.pinned (OpenSpec.ofChange fnExactGhostTableSpec)

/-- ITS FALSE NEIGHBOUR: 'it returns false'. Refute it at one input. -/
def fnExactGhostTableWrong : ChangeSpec := { name := "fnExactGhostTable", fn := fun _ => fun
  | [d1, d2] => { results := [.lit (.bool false)], args := [d1, d2] }
  | _ => none }
def FnExactGhostTableWrongFalsely : Prop := fnExactGhostTableRow.holds Try.pinned (OpenSpec.ofChange fnExactGhostTableWrong)

/-- 'laws.FnExactWorstSeverity': WHATEVER THE INPUT: true; the input reads as it did. -/
def fnExactWorstSeveritySpec : ChangeSpec := { name := "fnExactWorstSeverity", fn := fun _ => fun
  | [d1, d2] => { results := [.lit (.bool true)], args := [d1, d2] }
  | _ => none }
def fnExactWorstSeverityRow : OpenClaim := { program := "ytlfnadmbelngeaa", sum := "ce0498240fa64b226bdfcf24d3d833bf13218c30ad6d247997fec82a75abf6b0", func := "loop.example/g00947/laws.FnExactWorstSeverity", spec := "fnExactWorstSeverity", unfollowed := true, recurses := true, apart := false }
def FnExactWorstSeveritySaid : Prop := fnExactWorstSeverityRow.holds Try.pinned (OpenSpec.ofChange fnExactWorstSeveritySpec)

/-- ITS FALSE NEIGHBOUR: 'it returns false'. Refute it at one input. -/
def fnExactWorstSeverityWrong : ChangeSpec := { name := "fnExactWorstSeverity", fn := fun _ => fun
  | [d1, d2] => { results := [.lit (.bool false)], args := [d1, d2] }
  | _ => none }
def FnExactWorstSeverityWrongFalsely : Prop := fnExactWorstSeverityRow.holds Try.pinned (OpenSpec.ofChange fnExactWorstSeverityWrong)

/- THE SECOND FORM. 'bulk': how many values and letters a reading holds, each counted each time it is reached (what is shared counts as often as it is met; a slice's spare places count too). A statement '..UptoSaid' is the law's where the arguments, and the package variables that the reading takes, are together of bulk at most 1048576: NARROWER than '..Said'. Prove '..Said' where nothing that the law and all that it calls make is longer than what came in: it says more and counts as full. Else prove '..UptoSaid'. A law counts once. -/
mutual
def uptoBulk {H : Type} : DataW H → Nat
  | .lit (.string bytes) => bytes.length + 1
  | .lit _ => 1
  | .nil => 1
  | .ptr d => uptoBulk d + 1
  | .slice elems spare => uptoBulkAll elems + uptoBulkAll spare + 1
  | .agg parts => uptoBulkAll parts + 1
  | .iface _ d => uptoBulk d + 1
  | .map entries => uptoBulkEntries entries + 1
  | .held _ => 1
def uptoBulkAll {H : Type} : List (DataW H) → Nat
  | [] => 0
  | d :: r => uptoBulk d + uptoBulkAll r
def uptoBulkEntries {H : Type} : List (Lit × DataW H) → Nat
  | [] => 0
  | x :: r => uptoBulkEntry x + uptoBulkEntries r
def uptoBulkEntry {H : Type} : Lit × DataW H → Nat
  | (.string bytes, d) => bytes.length + uptoBulk d + 1
  | (_, d) => uptoBulk d + 1
 end
def uptoSmall : (H : Type) → List (DataW H) → Bool := fun _ ds => decide (uptoBulkAll ds ≤ 1048576)
def OpenSpec.upto (s : _root_.Go.ChangeSpec) : _root_.Go.OpenSpec := { _root_.Go.OpenSpec.ofChange s with cond := some uptoSmall }

/-- 'laws.FnExactSeverityOf', WHERE WHAT IT READS IS OF BULK AT MOST 1048576: true; the input reads as it did. -/
def fnExactSeverityOfUptoRow : OpenClaim := { program := "ytlfnadmbelngeaa", sum := "ce0498240fa64b226bdfcf24d3d833bf13218c30ad6d247997fec82a75abf6b0", func := "loop.example/g00947/laws.FnExactSeverityOf", spec := "fnExactSeverityOf", unfollowed := true, recurses := true, apart := false, narrowed := true }
def FnExactSeverityOfUptoSaid : Prop := fnExactSeverityOfUptoRow.holds Try.pinned (OpenSpec.upto fnExactSeverityOfSpec)

/-- 'laws.FnExactCountByLocks', WHERE WHAT IT READS IS OF BULK AT MOST 1048576: true; the input reads as it did. -/
def fnExactCountByLocksUptoRow : OpenClaim := { program := "ytlfnadmbelngeaa", sum := "ce0498240fa64b226bdfcf24d3d833bf13218c30ad6d247997fec82a75abf6b0", func := "loop.example/g00947/laws.FnExactCountByLocks", spec := "fnExactCountByLocks", unfollowed := true, recurses := true, apart := false, narrowed := true }
def FnExactCountByLocksUptoSaid : Prop := fnExactCountByLocksUptoRow.holds Try.pinned (OpenSpec.upto fnExactCountByLocksSpec)

/-- 'laws.FnExactDoorGhosts', WHERE WHAT IT READS IS OF BULK AT MOST 1048576: true; the input reads as it did. -/
def fnExactDoorGhostsUptoRow : OpenClaim := { program := "ytlfnadmbelngeaa", sum := "ce0498240fa64b226bdfcf24d3d833bf13218c30ad6d247997fec82a75abf6b0", func := "loop.example/g00947/laws.FnExactDoorGhosts", spec := "fnExactDoorGhosts", unfollowed := true, recurses := true, apart := false, narrowed := true }
def FnExactDoorGhostsUptoSaid : Prop := fnExactDoorGhostsUptoRow.holds Try.pinned (OpenSpec.upto fnExactDoorGhostsSpec)

/-- 'laws.FnExactOpeningNumbers', WHERE WHAT IT READS IS OF BULK AT MOST 1048576: true; the input reads as it did. -/
def fnExactOpeningNumbersUptoRow : OpenClaim := { program := "ytlfnadmbelngeaa", sum := "ce0498240fa64b226bdfcf24d3d833bf13218c30ad6d247997fec82a75abf6b0", func := "loop.example/g00947/laws.FnExactOpeningNumbers", spec := "fnExactOpeningNumbers", unfollowed := true, recurses := true, apart := false, narrowed := true }
def FnExactOpeningNumbersUptoSaid : Prop := fnExactOpeningNumbersUptoRow.holds Try.pinned (OpenSpec.upto fnExactOpeningNumbersSpec)

/-- 'laws.FnExactCountSystemGhosts', WHERE WHAT IT READS IS OF BULK AT MOST 1048576: true; the input reads as it did. -/
def fnExactCountSystemGhostsUptoRow : OpenClaim := { program := "ytlfnadmbelngeaa", sum := "ce0498240fa64b226bdfcf24d3d833bf13218c30ad6d247997fec82a75abf6b0", func := "loop.example/g00947/laws.FnExactCountSystemGhosts", spec := "fnExactCountSystemGhosts", unfollowed := true, recurses := true, apart := false, narrowed := true }
def FnExactCountSystemGhostsUptoSaid : Prop := fnExactCountSystemGhostsUptoRow.holds Try.pinned (OpenSpec.upto fnExactCountSystemGhostsSpec)

/-- 'laws.FnExactGhostTable', WHERE WHAT IT READS IS OF BULK AT MOST 1048576: true; the input reads as it did. -/
def fnExactGhostTableUptoRow : OpenClaim := { program := "ytlfnadmbelngeaa", sum := "ce0498240fa64b226bdfcf24d3d833bf13218c30ad6d247997fec82a75abf6b0", func := "loop.example/g00947/laws.FnExactGhostTable", spec := "fnExactGhostTable", unfollowed := true, recurses := true, apart := false, narrowed := true }
def FnExactGhostTableUptoSaid : Prop := fnExactGhostTableUptoRow.holds Try.pinned (OpenSpec.upto fnExactGhostTableSpec)

/-- 'laws.FnExactWorstSeverity', WHERE WHAT IT READS IS OF BULK AT MOST 1048576: true; the input reads as it did. -/
def fnExactWorstSeverityUptoRow : OpenClaim := { program := "ytlfnadmbelngeaa", sum := "ce0498240fa64b226bdfcf24d3d833bf13218c30ad6d247997fec82a75abf6b0", func := "loop.example/g00947/laws.FnExactWorstSeverity", spec := "fnExactWorstSeverity", unfollowed := true, recurses := true, apart := false, narrowed := true }
def FnExactWorstSeverityUptoSaid : Prop := fnExactWorstSeverityUptoRow.holds Try.pinned (OpenSpec.upto fnExactWorstSeveritySpec)

end Rows
end Go.Proofs.Ytlfnadmbelngeaa
