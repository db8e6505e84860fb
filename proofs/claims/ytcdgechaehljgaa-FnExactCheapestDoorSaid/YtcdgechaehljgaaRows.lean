/-
  No cell of these rows narrows 'for every input' (looked for: loops, veiled, ifaces, maps, wideKeys, modest, calm, conditions, laid).
  DERIVED. THE GIVEN ROWS OF THIS SEAT. 12 by the template 'for every input the law returns true; each argument reads behind the call as it read before'; 0 by the template 'total and deterministic' (their statements: YtcdgechaehljgaaTotals.lean).
  GIVEN WITH THE SEED: the statements are not yours to turn. If you find one false, say at which input.
  Laid BY PROGRAM, IN A SANDBOX (cutbox-rows.mjs): the forced cells as the released guide's own fill.sh prints them over the translation 9199f046e53f45e1… (all of the seat's roots in one cut). By AI agents, Wed Nov 11 2026. No macro, syntax, notation, axiom, sorry.
-/
import Derived.Test.YtcdgechaehljgaaChecked
import GoSem.Claim
import GoSem.ClaimJoined
import GoSem.ClaimMapViews
import Derived.JoinedTies
import Derived.KernelRfl
namespace Go.Proofs.Ytcdgechaehljgaa
/- THE CELL 'sum', in the pinned program and in every row, IS THE sha256 OF THE DUMP (.gsa) THAT YtcdgechaehljgaaProg.lean LOADS. Nothing in Lean hashes anything: it is a label: what it is worth is what the hold of that sum in a sandbox is worth. -/
noncomputable def Try.pinned : Pinned := { name := "ytcdgechaehljgaa", sum := "9199f046e53f45e1decb93f3a82d115e9278f1e0a0002a95ba55b1a26440f676", checked := Try.checked }
namespace Rows
def none {H : Type} : Left H := { results := [], args := [] }

/-- 'laws.FnExactLeastWafers': WHATEVER THE INPUT: true; the input reads as it did. -/
def fnExactLeastWafersSpec : ChangeSpec := { name := "fnExactLeastWafers", fn := fun _ => fun
  | [d] => { results := [.lit (.bool true)], args := [d] }
  | _ => none }
def fnExactLeastWafersRow : OpenClaim := { program := "ytcdgechaehljgaa", sum := "9199f046e53f45e1decb93f3a82d115e9278f1e0a0002a95ba55b1a26440f676", func := "loop.example/g00947/laws.FnExactLeastWafers", spec := "fnExactLeastWafers", unfollowed := true, recurses := true, apart := false }
def FnExactLeastWafersSaid : Prop := fnExactLeastWafersRow.holds Try.pinned (OpenSpec.ofChange fnExactLeastWafersSpec)

/-- ITS FALSE NEIGHBOUR: 'it returns false'. Refute it at one input. -/
def fnExactLeastWafersWrong : ChangeSpec := { name := "fnExactLeastWafers", fn := fun _ => fun
  | [d] => { results := [.lit (.bool false)], args := [d] }
  | _ => none }
def FnExactLeastWafersWrongFalsely : Prop := fnExactLeastWafersRow.holds Try.pinned (OpenSpec.ofChange fnExactLeastWafersWrong)

/-- 'laws.FnExactSpareKeys': WHATEVER THE INPUT: true; the input reads as it did. -/
def fnExactSpareKeysSpec : ChangeSpec := { name := "fnExactSpareKeys", fn := fun _ => fun
  | [d] => { results := [.lit (.bool true)], args := [d] }
  | _ => none }
def fnExactSpareKeysRow : OpenClaim := { program := "ytcdgechaehljgaa", sum := "9199f046e53f45e1decb93f3a82d115e9278f1e0a0002a95ba55b1a26440f676", func := "loop.example/g00947/laws.FnExactSpareKeys", spec := "fnExactSpareKeys", unfollowed := true, recurses := true, apart := false }
def FnExactSpareKeysSaid : Prop := fnExactSpareKeysRow.holds Try.pinned (OpenSpec.ofChange fnExactSpareKeysSpec)

/-- ITS FALSE NEIGHBOUR: 'it returns false'. Refute it at one input. -/
def fnExactSpareKeysWrong : ChangeSpec := { name := "fnExactSpareKeys", fn := fun _ => fun
  | [d] => { results := [.lit (.bool false)], args := [d] }
  | _ => none }
def FnExactSpareKeysWrongFalsely : Prop := fnExactSpareKeysRow.holds Try.pinned (OpenSpec.ofChange fnExactSpareKeysWrong)

/-- 'laws.FnExactIsTooTight': WHATEVER THE INPUT: true; the input reads as it did. -/
def fnExactIsTooTightSpec : ChangeSpec := { name := "fnExactIsTooTight", fn := fun _ => fun
  | [d] => { results := [.lit (.bool true)], args := [d] }
  | _ => none }
def fnExactIsTooTightRow : OpenClaim := { program := "ytcdgechaehljgaa", sum := "9199f046e53f45e1decb93f3a82d115e9278f1e0a0002a95ba55b1a26440f676", func := "loop.example/g00947/laws.FnExactIsTooTight", spec := "fnExactIsTooTight", unfollowed := true, recurses := true, apart := false }
def FnExactIsTooTightSaid : Prop := fnExactIsTooTightRow.holds Try.pinned (OpenSpec.ofChange fnExactIsTooTightSpec)

/-- ITS FALSE NEIGHBOUR: 'it returns false'. Refute it at one input. -/
def fnExactIsTooTightWrong : ChangeSpec := { name := "fnExactIsTooTight", fn := fun _ => fun
  | [d] => { results := [.lit (.bool false)], args := [d] }
  | _ => none }
def FnExactIsTooTightWrongFalsely : Prop := fnExactIsTooTightRow.holds Try.pinned (OpenSpec.ofChange fnExactIsTooTightWrong)

/-- 'laws.FnExactCountReasons': WHATEVER THE INPUT: true; the input reads as it did. -/
def fnExactCountReasonsSpec : ChangeSpec := { name := "fnExactCountReasons", fn := fun _ => fun
  | [d1, d2, d3, d4] => { results := [.lit (.bool true)], args := [d1, d2, d3, d4] }
  | _ => none }
def fnExactCountReasonsRow : OpenClaim := { program := "ytcdgechaehljgaa", sum := "9199f046e53f45e1decb93f3a82d115e9278f1e0a0002a95ba55b1a26440f676", func := "loop.example/g00947/laws.FnExactCountReasons", spec := "fnExactCountReasons", unfollowed := true, recurses := true, apart := false }
def FnExactCountReasonsSaid : Prop := fnExactCountReasonsRow.holds Try.pinned (OpenSpec.ofChange fnExactCountReasonsSpec)

/-- ITS FALSE NEIGHBOUR: 'it returns false'. Refute it at one input. -/
def fnExactCountReasonsWrong : ChangeSpec := { name := "fnExactCountReasons", fn := fun _ => fun
  | [d1, d2, d3, d4] => { results := [.lit (.bool false)], args := [d1, d2, d3, d4] }
  | _ => none }
def FnExactCountReasonsWrongFalsely : Prop := fnExactCountReasonsRow.holds Try.pinned (OpenSpec.ofChange fnExactCountReasonsWrong)

/-- 'laws.FnExactIsReason': WHATEVER THE INPUT: true; the input reads as it did. -/
def fnExactIsReasonSpec : ChangeSpec := { name := "fnExactIsReason", fn := fun _ => fun
  | [d1, d2, d3, d4, d5] => { results := [.lit (.bool true)], args := [d1, d2, d3, d4, d5] }
  | _ => none }
def fnExactIsReasonRow : OpenClaim := { program := "ytcdgechaehljgaa", sum := "9199f046e53f45e1decb93f3a82d115e9278f1e0a0002a95ba55b1a26440f676", func := "loop.example/g00947/laws.FnExactIsReason", spec := "fnExactIsReason", unfollowed := true, recurses := true, apart := false }
def FnExactIsReasonSaid : Prop := fnExactIsReasonRow.holds Try.pinned (OpenSpec.ofChange fnExactIsReasonSpec)

/-- ITS FALSE NEIGHBOUR: 'it returns false'. Refute it at one input. -/
def fnExactIsReasonWrong : ChangeSpec := { name := "fnExactIsReason", fn := fun _ => fun
  | [d1, d2, d3, d4, d5] => { results := [.lit (.bool false)], args := [d1, d2, d3, d4, d5] }
  | _ => none }
def FnExactIsReasonWrongFalsely : Prop := fnExactIsReasonRow.holds Try.pinned (OpenSpec.ofChange fnExactIsReasonWrong)

/-- 'laws.FnExactKeepRows': WHATEVER THE INPUT: true; the input reads as it did. -/
def fnExactKeepRowsSpec : ChangeSpec := { name := "fnExactKeepRows", fn := fun _ => fun
  | [d1, d2, d3] => { results := [.lit (.bool true)], args := [d1, d2, d3] }
  | _ => none }
def fnExactKeepRowsRow : OpenClaim := { program := "ytcdgechaehljgaa", sum := "9199f046e53f45e1decb93f3a82d115e9278f1e0a0002a95ba55b1a26440f676", func := "loop.example/g00947/laws.FnExactKeepRows", spec := "fnExactKeepRows", unfollowed := true, recurses := true, apart := false }
def FnExactKeepRowsSaid : Prop := fnExactKeepRowsRow.holds Try.pinned (OpenSpec.ofChange fnExactKeepRowsSpec)

/-- ITS FALSE NEIGHBOUR: 'it returns false'. Refute it at one input. -/
def fnExactKeepRowsWrong : ChangeSpec := { name := "fnExactKeepRows", fn := fun _ => fun
  | [d1, d2, d3] => { results := [.lit (.bool false)], args := [d1, d2, d3] }
  | _ => none }
def FnExactKeepRowsWrongFalsely : Prop := fnExactKeepRowsRow.holds Try.pinned (OpenSpec.ofChange fnExactKeepRowsWrong)

/-- 'laws.FnExactRowsOf': WHATEVER THE INPUT: true; the input reads as it did. -/
def fnExactRowsOfSpec : ChangeSpec := { name := "fnExactRowsOf", fn := fun _ => fun
  | [d] => { results := [.lit (.bool true)], args := [d] }
  | _ => none }
def fnExactRowsOfRow : OpenClaim := { program := "ytcdgechaehljgaa", sum := "9199f046e53f45e1decb93f3a82d115e9278f1e0a0002a95ba55b1a26440f676", func := "loop.example/g00947/laws.FnExactRowsOf", spec := "fnExactRowsOf", recurses := true, apart := false }
def FnExactRowsOfSaid : Prop := fnExactRowsOfRow.holds Try.pinned (OpenSpec.ofChange fnExactRowsOfSpec)

/-- ITS FALSE NEIGHBOUR: 'it returns false'. Refute it at one input. -/
def fnExactRowsOfWrong : ChangeSpec := { name := "fnExactRowsOf", fn := fun _ => fun
  | [d] => { results := [.lit (.bool false)], args := [d] }
  | _ => none }
def FnExactRowsOfWrongFalsely : Prop := fnExactRowsOfRow.holds Try.pinned (OpenSpec.ofChange fnExactRowsOfWrong)

/-- 'laws.FnExactFirstReason': WHATEVER THE INPUT: true; the input reads as it did. -/
def fnExactFirstReasonSpec : ChangeSpec := { name := "fnExactFirstReason", fn := fun _ => fun
  | [d1, d2, d3, d4] => { results := [.lit (.bool true)], args := [d1, d2, d3, d4] }
  | _ => none }
def fnExactFirstReasonRow : OpenClaim := { program := "ytcdgechaehljgaa", sum := "9199f046e53f45e1decb93f3a82d115e9278f1e0a0002a95ba55b1a26440f676", func := "loop.example/g00947/laws.FnExactFirstReason", spec := "fnExactFirstReason", unfollowed := true, recurses := true, apart := false }
def FnExactFirstReasonSaid : Prop := fnExactFirstReasonRow.holds Try.pinned (OpenSpec.ofChange fnExactFirstReasonSpec)

/-- ITS FALSE NEIGHBOUR: 'it returns false'. Refute it at one input. -/
def fnExactFirstReasonWrong : ChangeSpec := { name := "fnExactFirstReason", fn := fun _ => fun
  | [d1, d2, d3, d4] => { results := [.lit (.bool false)], args := [d1, d2, d3, d4] }
  | _ => none }
def FnExactFirstReasonWrongFalsely : Prop := fnExactFirstReasonRow.holds Try.pinned (OpenSpec.ofChange fnExactFirstReasonWrong)

/-- 'laws.FnExactLongestChain': WHATEVER THE INPUT: true; the input reads as it did. -/
def fnExactLongestChainSpec : ChangeSpec := { name := "fnExactLongestChain", fn := fun _ => fun
  | [d] => { results := [.lit (.bool true)], args := [d] }
  | _ => none }
def fnExactLongestChainRow : OpenClaim := { program := "ytcdgechaehljgaa", sum := "9199f046e53f45e1decb93f3a82d115e9278f1e0a0002a95ba55b1a26440f676", func := "loop.example/g00947/laws.FnExactLongestChain", spec := "fnExactLongestChain", unfollowed := true, recurses := true, apart := false }
def FnExactLongestChainSaid : Prop := fnExactLongestChainRow.holds Try.pinned (OpenSpec.ofChange fnExactLongestChainSpec)

/-- ITS FALSE NEIGHBOUR: 'it returns false'. Refute it at one input. -/
def fnExactLongestChainWrong : ChangeSpec := { name := "fnExactLongestChain", fn := fun _ => fun
  | [d] => { results := [.lit (.bool false)], args := [d] }
  | _ => none }
def FnExactLongestChainWrongFalsely : Prop := fnExactLongestChainRow.holds Try.pinned (OpenSpec.ofChange fnExactLongestChainWrong)

/-- 'laws.FnExactCheapestDoor': WHATEVER THE INPUT: true; the input reads as it did. -/
def fnExactCheapestDoorSpec : ChangeSpec := { name := "fnExactCheapestDoor", fn := fun _ => fun
  | [d1, d2] => { results := [.lit (.bool true)], args := [d1, d2] }
  | _ => none }
def fnExactCheapestDoorRow : OpenClaim := { program := "ytcdgechaehljgaa", sum := "9199f046e53f45e1decb93f3a82d115e9278f1e0a0002a95ba55b1a26440f676", func := "loop.example/g00947/laws.FnExactCheapestDoor", spec := "fnExactCheapestDoor", unfollowed := true, recurses := true, apart := false }
def FnExactCheapestDoorSaid : Prop := fnExactCheapestDoorRow.holds Try.pinned (OpenSpec.ofChange fnExactCheapestDoorSpec)

/-- ITS FALSE NEIGHBOUR: 'it returns false'. Refute it at one input. -/
def fnExactCheapestDoorWrong : ChangeSpec := { name := "fnExactCheapestDoor", fn := fun _ => fun
  | [d1, d2] => { results := [.lit (.bool false)], args := [d1, d2] }
  | _ => none }
def FnExactCheapestDoorWrongFalsely : Prop := fnExactCheapestDoorRow.holds Try.pinned (OpenSpec.ofChange fnExactCheapestDoorWrong)

/-- 'laws.FnExactSystemWafers': WHATEVER THE INPUT: true; the input reads as it did. -/
def fnExactSystemWafersSpec : ChangeSpec := { name := "fnExactSystemWafers", fn := fun _ => fun
  | [d1, d2] => { results := [.lit (.bool true)], args := [d1, d2] }
  | _ => none }
def fnExactSystemWafersRow : OpenClaim := { program := "ytcdgechaehljgaa", sum := "9199f046e53f45e1decb93f3a82d115e9278f1e0a0002a95ba55b1a26440f676", func := "loop.example/g00947/laws.FnExactSystemWafers", spec := "fnExactSystemWafers", unfollowed := true, recurses := true, apart := false }
def FnExactSystemWafersSaid : Prop := fnExactSystemWafersRow.holds Try.pinned (OpenSpec.ofChange fnExactSystemWafersSpec)

/-- ITS FALSE NEIGHBOUR: 'it returns false'. Refute it at one input. -/
def fnExactSystemWafersWrong : ChangeSpec := { name := "fnExactSystemWafers", fn := fun _ => fun
  | [d1, d2] => { results := [.lit (.bool false)], args := [d1, d2] }
  | _ => none }
def FnExactSystemWafersWrongFalsely : Prop := fnExactSystemWafersRow.holds Try.pinned (OpenSpec.ofChange fnExactSystemWafersWrong)

/-- 'laws.FnExactDoorsOpened': WHATEVER THE INPUT: true; the input reads as it did. -/
def fnExactDoorsOpenedSpec : ChangeSpec := { name := "fnExactDoorsOpened", fn := fun _ => fun
  | [d1, d2, d3] => { results := [.lit (.bool true)], args := [d1, d2, d3] }
  | _ => none }
def fnExactDoorsOpenedRow : OpenClaim := { program := "ytcdgechaehljgaa", sum := "9199f046e53f45e1decb93f3a82d115e9278f1e0a0002a95ba55b1a26440f676", func := "loop.example/g00947/laws.FnExactDoorsOpened", spec := "fnExactDoorsOpened", unfollowed := true, recurses := true, apart := false }
def FnExactDoorsOpenedSaid : Prop := fnExactDoorsOpenedRow.holds Try.pinned (OpenSpec.ofChange fnExactDoorsOpenedSpec)

/-- ITS FALSE NEIGHBOUR: 'it returns false'. Refute it at one input. -/
def fnExactDoorsOpenedWrong : ChangeSpec := { name := "fnExactDoorsOpened", fn := fun _ => fun
  | [d1, d2, d3] => { results := [.lit (.bool false)], args := [d1, d2, d3] }
  | _ => none }
def FnExactDoorsOpenedWrongFalsely : Prop := fnExactDoorsOpenedRow.holds Try.pinned (OpenSpec.ofChange fnExactDoorsOpenedWrong)

/- THE SECOND FORM. 'bulk': how many values and letters a reading holds, each counted each time it is reached (what is shared counts as often as it is met; a slice's spare places count too). A statement '..UptoSaid' is the law's where the arguments, and the package variables that the reading takes, are together of bulk at most 1048576: NARROWER than '..Said'. Prove '..Said' where nothing that the law and all that it calls make is longer than what came in: it says more and counts as full. Else prove '..UptoSaid'. A law counts once. -/
mutual
def uptoBulk {H : Type} : DataW H → Nat
  | .lit (.string bytes) => bytes.length + 1
  | .lit _ => 1
  | .nil => 1
  | .ptr d => uptoBulk d + 1
  | .slice elems spare => uptoBulkAll elems + uptoBulkAll spare + 1
  | .agg parts => uptoBulkAll parts + 1
  | .iface _ d => uptoBulk d + 1
  | .map entries => uptoBulkEntries entries + 1
  | .held _ => 1
def uptoBulkAll {H : Type} : List (DataW H) → Nat
  | [] => 0
  | d :: r => uptoBulk d + uptoBulkAll r
def uptoBulkEntries {H : Type} : List (Lit × DataW H) → Nat
  | [] => 0
  | x :: r => uptoBulkEntry x + uptoBulkEntries r
def uptoBulkEntry {H : Type} : Lit × DataW H → Nat
  | (.string bytes, d) => bytes.length + uptoBulk d + 1
  | (_, d) => uptoBulk d + 1
 end
def uptoSmall : (H : Type) → List (DataW H) → Bool := fun _ ds => decide (uptoBulkAll ds ≤ 1048576)
def OpenSpec.upto (s : _root_.Go.ChangeSpec) : _root_.Go.OpenSpec := { _root_.Go.OpenSpec.ofChange s with cond := some uptoSmall }

/-- 'laws.FnExactLeastWafers', WHERE WHAT IT READS IS OF BULK AT MOST 1048576: true; the input reads as it did. -/
def fnExactLeastWafersUptoRow : OpenClaim := { program := "ytcdgechaehljgaa", sum := "9199f046e53f45e1decb93f3a82d115e9278f1e0a0002a95ba55b1a26440f676", func := "loop.example/g00947/laws.FnExactLeastWafers", spec := "fnExactLeastWafers", unfollowed := true, recurses := true, apart := false, narrowed := true }
def FnExactLeastWafersUptoSaid : Prop := fnExactLeastWafersUptoRow.holds Try.pinned (OpenSpec.upto fnExactLeastWafersSpec)

/-- 'laws.FnExactSpareKeys', WHERE WHAT IT READS IS OF BULK AT MOST 1048576: true; the input reads as it did. -/
def fnExactSpareKeysUptoRow : OpenClaim := { program := "ytcdgechaehljgaa", sum := "9199f046e53f45e1decb93f3a82d115e9278f1e0a0002a95ba55b1a26440f676", func := "loop.example/g00947/laws.FnExactSpareKeys", spec := "fnExactSpareKeys", unfollowed := true, recurses := true, apart := false, narrowed := true }
def FnExactSpareKeysUptoSaid : Prop := fnExactSpareKeysUptoRow.holds Try.pinned (OpenSpec.upto fnExactSpareKeysSpec)

/-- 'laws.FnExactIsTooTight', WHERE WHAT IT READS IS OF BULK AT MOST 1048576: true; the input reads as it did. -/
def fnExactIsTooTightUptoRow : OpenClaim := { program := "ytcdgechaehljgaa", sum := "9199f046e53f45e1decb93f3a82d115e9278f1e0a0002a95ba55b1a26440f676", func := "loop.example/g00947/laws.FnExactIsTooTight", spec := "fnExactIsTooTight", unfollowed := true, recurses := true, apart := false, narrowed := true }
def FnExactIsTooTightUptoSaid : Prop := fnExactIsTooTightUptoRow.holds Try.pinned (OpenSpec.upto fnExactIsTooTightSpec)

/-- 'laws.FnExactCountReasons', WHERE WHAT IT READS IS OF BULK AT MOST 1048576: true; the input reads as it did. -/
def fnExactCountReasonsUptoRow : OpenClaim := { program := "ytcdgechaehljgaa", sum := "9199f046e53f45e1decb93f3a82d115e9278f1e0a0002a95ba55b1a26440f676", func := "loop.example/g00947/laws.FnExactCountReasons", spec := "fnExactCountReasons", unfollowed := true, recurses := true, apart := false, narrowed := true }
def FnExactCountReasonsUptoSaid : Prop := fnExactCountReasonsUptoRow.holds Try.pinned (OpenSpec.upto fnExactCountReasonsSpec)

/-- 'laws.FnExactIsReason', WHERE WHAT IT READS IS OF BULK AT MOST 1048576: true; the input reads as it did. -/
def fnExactIsReasonUptoRow : OpenClaim := { program := "ytcdgechaehljgaa", sum := "9199f046e53f45e1decb93f3a82d115e9278f1e0a0002a95ba55b1a26440f676", func := "loop.example/g00947/laws.FnExactIsReason", spec := "fnExactIsReason", unfollowed := true, recurses := true, apart := false, narrowed := true }
def FnExactIsReasonUptoSaid : Prop := fnExactIsReasonUptoRow.holds Try.pinned (OpenSpec.upto fnExactIsReasonSpec)

/-- 'laws.FnExactKeepRows', WHERE WHAT IT READS IS OF BULK AT MOST 1048576: true; the input reads as it did. -/
def fnExactKeepRowsUptoRow : OpenClaim := { program := "ytcdgechaehljgaa", sum := "9199f046e53f45e1decb93f3a82d115e9278f1e0a0002a95ba55b1a26440f676", func := "loop.example/g00947/laws.FnExactKeepRows", spec := "fnExactKeepRows", unfollowed := true, recurses := true, apart := false, narrowed := true }
def FnExactKeepRowsUptoSaid : Prop := fnExactKeepRowsUptoRow.holds Try.pinned (OpenSpec.upto fnExactKeepRowsSpec)

/-- 'laws.FnExactRowsOf', WHERE WHAT IT READS IS OF BULK AT MOST 1048576: true; the input reads as it did. -/
def fnExactRowsOfUptoRow : OpenClaim := { program := "ytcdgechaehljgaa", sum := "9199f046e53f45e1decb93f3a82d115e9278f1e0a0002a95ba55b1a26440f676", func := "loop.example/g00947/laws.FnExactRowsOf", spec := "fnExactRowsOf", recurses := true, apart := false, narrowed := true }
def FnExactRowsOfUptoSaid : Prop := fnExactRowsOfUptoRow.holds Try.pinned (OpenSpec.upto fnExactRowsOfSpec)

/-- 'laws.FnExactFirstReason', WHERE WHAT IT READS IS OF BULK AT MOST 1048576: true; the input reads as it did. -/
def fnExactFirstReasonUptoRow : OpenClaim := { program := "ytcdgechaehljgaa", sum := "9199f046e53f45e1decb93f3a82d115e9278f1e0a0002a95ba55b1a26440f676", func := "loop.example/g00947/laws.FnExactFirstReason", spec := "fnExactFirstReason", unfollowed := true, recurses := true, apart := false, narrowed := true }
def FnExactFirstReasonUptoSaid : Prop := fnExactFirstReasonUptoRow.holds Try.pinned (OpenSpec.upto fnExactFirstReasonSpec)

/-- 'laws.FnExactLongestChain', WHERE WHAT IT READS IS OF BULK AT MOST 1048576: true; the input reads as it did. -/
def fnExactLongestChainUptoRow : OpenClaim := { program := "ytcdgechaehljgaa", sum := "9199f046e53f45e1decb93f3a82d115e9278f1e0a0002a95ba55b1a26440f676", func := "loop.example/g00947/laws.FnExactLongestChain", spec := "fnExactLongestChain", unfollowed := true, recurses := true, apart := false, narrowed := true }
def FnExactLongestChainUptoSaid : Prop := fnExactLongestChainUptoRow.holds Try.pinned (OpenSpec.upto fnExactLongestChainSpec)

/-- 'laws.FnExactCheapestDoor', WHERE WHAT IT READS IS OF BULK AT MOST 1048576: true; the input reads as it did. -/
def fnExactCheapestDoorUptoRow : OpenClaim := { program := "ytcdgechaehljgaa", sum := "9199f046e53f45e1decb93f3a82d115e9278f1e0a0002a95ba55b1a26440f676", func := "loop.example/g00947/laws.FnExactCheapestDoor", spec := "fnExactCheapestDoor", unfollowed := true, recurses := true, apart := false, narrowed := true }
def FnExactCheapestDoorUptoSaid : Prop := fnExactCheapestDoorUptoRow.holds Try.pinned (OpenSpec.upto fnExactCheapestDoorSpec)

/-- 'laws.FnExactSystemWafers', WHERE WHAT IT READS IS OF BULK AT MOST 1048576: true; the input reads as it did. -/
def fnExactSystemWafersUptoRow : OpenClaim := { program := "ytcdgechaehljgaa", sum := "9199f046e53f45e1decb93f3a82d115e9278f1e0a0002a95ba55b1a26440f676", func := "loop.example/g00947/laws.FnExactSystemWafers", spec := "fnExactSystemWafers", unfollowed := true, recurses := true, apart := false, narrowed := true }
def FnExactSystemWafersUptoSaid : Prop := fnExactSystemWafersUptoRow.holds Try.pinned (OpenSpec.upto fnExactSystemWafersSpec)

/-- 'laws.FnExactDoorsOpened', WHERE WHAT IT READS IS OF BULK AT MOST 1048576: true; the input reads as it did. -/
def fnExactDoorsOpenedUptoRow : OpenClaim := { program := "ytcdgechaehljgaa", sum := "9199f046e53f45e1decb93f3a82d115e9278f1e0a0002a95ba55b1a26440f676", func := "loop.example/g00947/laws.FnExactDoorsOpened", spec := "fnExactDoorsOpened", unfollowed := true, recurses := true, apart := false, narrowed := true }
def FnExactDoorsOpenedUptoSaid : Prop := fnExactDoorsOpenedUptoRow.holds Try.pinned (OpenSpec.upto fnExactDoorsOpenedSpec)

end Rows
end Go.Proofs.Ytcdgechaehljgaa
