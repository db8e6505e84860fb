/-
  No cell of these rows narrows 'for every input' (looked for: loops, veiled, ifaces, maps, wideKeys, modest, calm, conditions, laid).
  DERIVED. THE GIVEN ROWS OF THIS SEAT. 26 by the template 'for every input the law returns true; each argument reads behind the call as it read before'; 0 by the template 'total and deterministic' (their statements: YtchgjgidnecddaaTotals.lean).
  GIVEN WITH THE SEED: the statements are not yours to turn. If you find one false, say at which input.
  Laid BY PROGRAM, IN A SANDBOX (cutbox-rows.mjs): the forced cells as the released guide's own fill.sh prints them over the translation 322beca4fd157e9a… (all of the seat's roots in one cut). By AI agents, Wed Nov 11 2026. No macro, syntax, notation, axiom, sorry.
-/
import Derived.Test.YtchgjgidnecddaaChecked
import GoSem.Claim
import GoSem.ClaimJoined
import GoSem.ClaimMapViews
import Derived.JoinedTies
import Derived.KernelRfl
namespace Go.Proofs.Ytchgjgidnecddaa
/- THE CELL 'sum', in the pinned program and in every row, IS THE sha256 OF THE DUMP (.gsa) THAT YtchgjgidnecddaaProg.lean LOADS. Nothing in Lean hashes anything: it is a label: what it is worth is what the hold of that sum in a sandbox is worth. -/
noncomputable def Try.pinned : Pinned := { name := "ytchgjgidnecddaa", sum := "322beca4fd157e9ae54dad4b88be9a547056e0574ffc736a91e27dc1afa19221", checked := Try.checked }
namespace Rows
def none {H : Type} : Left H := { results := [], args := [] }

/-- 'laws.FnExactLeastWafers': WHATEVER THE INPUT: true; the input reads as it did. -/
def fnExactLeastWafersSpec : ChangeSpec := { name := "fnExactLeastWafers", fn := fun _ => fun
  | [d] => { results := [.lit (.bool true)], args := [d] }
  | _ => none }
def fnExactLeastWafersRow : OpenClaim := { program := "ytchgjgidnecddaa", sum := "322beca4fd157e9ae54dad4b88be9a547056e0574ffc736a91e27dc1afa19221", func := "loop.example/g00947/laws.FnExactLeastWafers", spec := "fnExactLeastWafers", unfollowed := true, recurses := true, apart := false }
def FnExactLeastWafersSaid : Prop := fnExactLeastWafersRow.holds Try.pinned (OpenSpec.ofChange fnExactLeastWafersSpec)

/-- ITS FALSE NEIGHBOUR: 'it returns false'. Refute it at one input. -/
def fnExactLeastWafersWrong : ChangeSpec := { name := "fnExactLeastWafers", fn := fun _ => fun
  | [d] => { results := [.lit (.bool false)], args := [d] }
  | _ => none }
def FnExactLeastWafersWrongFalsely : Prop := fnExactLeastWafersRow.holds Try.pinned (OpenSpec.ofChange fnExactLeastWafersWrong)

/-- 'laws.FnExactSpareKeys': WHATEVER THE INPUT: true; the input reads as it did. -/
def fnExactSpareKeysSpec : ChangeSpec := { name := "fnExactSpareKeys", fn := fun _ => fun
  | [d] => { results := [.lit (.bool true)], args := [d] }
  | _ => none }
def fnExactSpareKeysRow : OpenClaim := { program := "ytchgjgidnecddaa", sum := "322beca4fd157e9ae54dad4b88be9a547056e0574ffc736a91e27dc1afa19221", func := "loop.example/g00947/laws.FnExactSpareKeys", spec := "fnExactSpareKeys", unfollowed := true, recurses := true, apart := false }
def FnExactSpareKeysSaid : Prop := fnExactSpareKeysRow.holds Try.pinned (OpenSpec.ofChange fnExactSpareKeysSpec)

/-- ITS FALSE NEIGHBOUR: 'it returns false'. Refute it at one input. -/
def fnExactSpareKeysWrong : ChangeSpec := { name := "fnExactSpareKeys", fn := fun _ => fun
  | [d] => { results := [.lit (.bool false)], args := [d] }
  | _ => none }
def FnExactSpareKeysWrongFalsely : Prop := fnExactSpareKeysRow.holds Try.pinned (OpenSpec.ofChange fnExactSpareKeysWrong)

/-- 'laws.FnExactIsTooTight': WHATEVER THE INPUT: true; the input reads as it did. -/
def fnExactIsTooTightSpec : ChangeSpec := { name := "fnExactIsTooTight", fn := fun _ => fun
  | [d] => { results := [.lit (.bool true)], args := [d] }
  | _ => none }
def fnExactIsTooTightRow : OpenClaim := { program := "ytchgjgidnecddaa", sum := "322beca4fd157e9ae54dad4b88be9a547056e0574ffc736a91e27dc1afa19221", func := "loop.example/g00947/laws.FnExactIsTooTight", spec := "fnExactIsTooTight", unfollowed := true, recurses := true, apart := false }
def FnExactIsTooTightSaid : Prop := fnExactIsTooTightRow.holds Try.pinned (OpenSpec.ofChange fnExactIsTooTightSpec)

/-- ITS FALSE NEIGHBOUR: 'it returns false'. Refute it at one input. -/
def fnExactIsTooTightWrong : ChangeSpec := { name := "fnExactIsTooTight", fn := fun _ => fun
  | [d] => { results := [.lit (.bool false)], args := [d] }
  | _ => none }
def FnExactIsTooTightWrongFalsely : Prop := fnExactIsTooTightRow.holds Try.pinned (OpenSpec.ofChange fnExactIsTooTightWrong)

/-- 'laws.FnExactCountReasons': WHATEVER THE INPUT: true; the input reads as it did. -/
def fnExactCountReasonsSpec : ChangeSpec := { name := "fnExactCountReasons", fn := fun _ => fun
  | [d1, d2, d3, d4] => { results := [.lit (.bool true)], args := [d1, d2, d3, d4] }
  | _ => none }
def fnExactCountReasonsRow : OpenClaim := { program := "ytchgjgidnecddaa", sum := "322beca4fd157e9ae54dad4b88be9a547056e0574ffc736a91e27dc1afa19221", func := "loop.example/g00947/laws.FnExactCountReasons", spec := "fnExactCountReasons", unfollowed := true, recurses := true, apart := false }
def FnExactCountReasonsSaid : Prop := fnExactCountReasonsRow.holds Try.pinned (OpenSpec.ofChange fnExactCountReasonsSpec)

/-- ITS FALSE NEIGHBOUR: 'it returns false'. Refute it at one input. -/
def fnExactCountReasonsWrong : ChangeSpec := { name := "fnExactCountReasons", fn := fun _ => fun
  | [d1, d2, d3, d4] => { results := [.lit (.bool false)], args := [d1, d2, d3, d4] }
  | _ => none }
def FnExactCountReasonsWrongFalsely : Prop := fnExactCountReasonsRow.holds Try.pinned (OpenSpec.ofChange fnExactCountReasonsWrong)

/-- 'laws.FnExactIsReason': WHATEVER THE INPUT: true; the input reads as it did. -/
def fnExactIsReasonSpec : ChangeSpec := { name := "fnExactIsReason", fn := fun _ => fun
  | [d1, d2, d3, d4, d5] => { results := [.lit (.bool true)], args := [d1, d2, d3, d4, d5] }
  | _ => none }
def fnExactIsReasonRow : OpenClaim := { program := "ytchgjgidnecddaa", sum := "322beca4fd157e9ae54dad4b88be9a547056e0574ffc736a91e27dc1afa19221", func := "loop.example/g00947/laws.FnExactIsReason", spec := "fnExactIsReason", unfollowed := true, recurses := true, apart := false }
def FnExactIsReasonSaid : Prop := fnExactIsReasonRow.holds Try.pinned (OpenSpec.ofChange fnExactIsReasonSpec)

/-- ITS FALSE NEIGHBOUR: 'it returns false'. Refute it at one input. -/
def fnExactIsReasonWrong : ChangeSpec := { name := "fnExactIsReason", fn := fun _ => fun
  | [d1, d2, d3, d4, d5] => { results := [.lit (.bool false)], args := [d1, d2, d3, d4, d5] }
  | _ => none }
def FnExactIsReasonWrongFalsely : Prop := fnExactIsReasonRow.holds Try.pinned (OpenSpec.ofChange fnExactIsReasonWrong)

/-- 'laws.FnExactKeepRows': WHATEVER THE INPUT: true; the input reads as it did. -/
def fnExactKeepRowsSpec : ChangeSpec := { name := "fnExactKeepRows", fn := fun _ => fun
  | [d1, d2, d3] => { results := [.lit (.bool true)], args := [d1, d2, d3] }
  | _ => none }
def fnExactKeepRowsRow : OpenClaim := { program := "ytchgjgidnecddaa", sum := "322beca4fd157e9ae54dad4b88be9a547056e0574ffc736a91e27dc1afa19221", func := "loop.example/g00947/laws.FnExactKeepRows", spec := "fnExactKeepRows", unfollowed := true, recurses := true, apart := false }
def FnExactKeepRowsSaid : Prop := fnExactKeepRowsRow.holds Try.pinned (OpenSpec.ofChange fnExactKeepRowsSpec)

/-- ITS FALSE NEIGHBOUR: 'it returns false'. Refute it at one input. -/
def fnExactKeepRowsWrong : ChangeSpec := { name := "fnExactKeepRows", fn := fun _ => fun
  | [d1, d2, d3] => { results := [.lit (.bool false)], args := [d1, d2, d3] }
  | _ => none }
def FnExactKeepRowsWrongFalsely : Prop := fnExactKeepRowsRow.holds Try.pinned (OpenSpec.ofChange fnExactKeepRowsWrong)

/-- 'laws.FnExactRowsOf': WHATEVER THE INPUT: true; the input reads as it did. -/
def fnExactRowsOfSpec : ChangeSpec := { name := "fnExactRowsOf", fn := fun _ => fun
  | [d] => { results := [.lit (.bool true)], args := [d] }
  | _ => none }
def fnExactRowsOfRow : OpenClaim := { program := "ytchgjgidnecddaa", sum := "322beca4fd157e9ae54dad4b88be9a547056e0574ffc736a91e27dc1afa19221", func := "loop.example/g00947/laws.FnExactRowsOf", spec := "fnExactRowsOf", recurses := true, apart := false }
def FnExactRowsOfSaid : Prop := fnExactRowsOfRow.holds Try.pinned (OpenSpec.ofChange fnExactRowsOfSpec)

/-- ITS FALSE NEIGHBOUR: 'it returns false'. Refute it at one input. -/
def fnExactRowsOfWrong : ChangeSpec := { name := "fnExactRowsOf", fn := fun _ => fun
  | [d] => { results := [.lit (.bool false)], args := [d] }
  | _ => none }
def FnExactRowsOfWrongFalsely : Prop := fnExactRowsOfRow.holds Try.pinned (OpenSpec.ofChange fnExactRowsOfWrong)

/-- 'laws.FnExactFirstReason': WHATEVER THE INPUT: true; the input reads as it did. -/
def fnExactFirstReasonSpec : ChangeSpec := { name := "fnExactFirstReason", fn := fun _ => fun
  | [d1, d2, d3, d4] => { results := [.lit (.bool true)], args := [d1, d2, d3, d4] }
  | _ => none }
def fnExactFirstReasonRow : OpenClaim := { program := "ytchgjgidnecddaa", sum := "322beca4fd157e9ae54dad4b88be9a547056e0574ffc736a91e27dc1afa19221", func := "loop.example/g00947/laws.FnExactFirstReason", spec := "fnExactFirstReason", unfollowed := true, recurses := true, apart := false }
def FnExactFirstReasonSaid : Prop := fnExactFirstReasonRow.holds Try.pinned (OpenSpec.ofChange fnExactFirstReasonSpec)

/-- ITS FALSE NEIGHBOUR: 'it returns false'. Refute it at one input. -/
def fnExactFirstReasonWrong : ChangeSpec := { name := "fnExactFirstReason", fn := fun _ => fun
  | [d1, d2, d3, d4] => { results := [.lit (.bool false)], args := [d1, d2, d3, d4] }
  | _ => none }
def FnExactFirstReasonWrongFalsely : Prop := fnExactFirstReasonRow.holds Try.pinned (OpenSpec.ofChange fnExactFirstReasonWrong)

/-- 'laws.FnExactLongestChain': WHATEVER THE INPUT: true; the input reads as it did. -/
def fnExactLongestChainSpec : ChangeSpec := { name := "fnExactLongestChain", fn := fun _ => fun
  | [d] => { results := [.lit (.bool true)], args := [d] }
  | _ => none }
def fnExactLongestChainRow : OpenClaim := { program := "ytchgjgidnecddaa", sum := "322beca4fd157e9ae54dad4b88be9a547056e0574ffc736a91e27dc1afa19221", func := "loop.example/g00947/laws.FnExactLongestChain", spec := "fnExactLongestChain", unfollowed := true, recurses := true, apart := false }
def FnExactLongestChainSaid : Prop := fnExactLongestChainRow.holds Try.pinned (OpenSpec.ofChange fnExactLongestChainSpec)

/-- ITS FALSE NEIGHBOUR: 'it returns false'. Refute it at one input. -/
def fnExactLongestChainWrong : ChangeSpec := { name := "fnExactLongestChain", fn := fun _ => fun
  | [d] => { results := [.lit (.bool false)], args := [d] }
  | _ => none }
def FnExactLongestChainWrongFalsely : Prop := fnExactLongestChainRow.holds Try.pinned (OpenSpec.ofChange fnExactLongestChainWrong)

/-- 'laws.FnExactCheapestDoor': WHATEVER THE INPUT: true; the input reads as it did. -/
def fnExactCheapestDoorSpec : ChangeSpec := { name := "fnExactCheapestDoor", fn := fun _ => fun
  | [d1, d2] => { results := [.lit (.bool true)], args := [d1, d2] }
  | _ => none }
def fnExactCheapestDoorRow : OpenClaim := { program := "ytchgjgidnecddaa", sum := "322beca4fd157e9ae54dad4b88be9a547056e0574ffc736a91e27dc1afa19221", func := "loop.example/g00947/laws.FnExactCheapestDoor", spec := "fnExactCheapestDoor", unfollowed := true, recurses := true, apart := false }
def FnExactCheapestDoorSaid : Prop := fnExactCheapestDoorRow.holds Try.pinned (OpenSpec.ofChange fnExactCheapestDoorSpec)

/-- ITS FALSE NEIGHBOUR: 'it returns false'. Refute it at one input. -/
def fnExactCheapestDoorWrong : ChangeSpec := { name := "fnExactCheapestDoor", fn := fun _ => fun
  | [d1, d2] => { results := [.lit (.bool false)], args := [d1, d2] }
  | _ => none }
def FnExactCheapestDoorWrongFalsely : Prop := fnExactCheapestDoorRow.holds Try.pinned (OpenSpec.ofChange fnExactCheapestDoorWrong)

/-- 'laws.FnExactSystemWafers': WHATEVER THE INPUT: true; the input reads as it did. -/
def fnExactSystemWafersSpec : ChangeSpec := { name := "fnExactSystemWafers", fn := fun _ => fun
  | [d1, d2] => { results := [.lit (.bool true)], args := [d1, d2] }
  | _ => none }
def fnExactSystemWafersRow : OpenClaim := { program := "ytchgjgidnecddaa", sum := "322beca4fd157e9ae54dad4b88be9a547056e0574ffc736a91e27dc1afa19221", func := "loop.example/g00947/laws.FnExactSystemWafers", spec := "fnExactSystemWafers", unfollowed := true, recurses := true, apart := false }
def FnExactSystemWafersSaid : Prop := fnExactSystemWafersRow.holds Try.pinned (OpenSpec.ofChange fnExactSystemWafersSpec)

/-- ITS FALSE NEIGHBOUR: 'it returns false'. Refute it at one input. -/
def fnExactSystemWafersWrong : ChangeSpec := { name := "fnExactSystemWafers", fn := fun _ => fun
  | [d1, d2] => { results := [.lit (.bool false)], args := [d1, d2] }
  | _ => none }
def FnExactSystemWafersWrongFalsely : Prop := fnExactSystemWafersRow.holds Try.pinned (OpenSpec.ofChange fnExactSystemWafersWrong)

/-- 'laws.FnExactDoorsOpened': WHATEVER THE INPUT: true; the input reads as it did. -/
def fnExactDoorsOpenedSpec : ChangeSpec := { name := "fnExactDoorsOpened", fn := fun _ => fun
  | [d1, d2, d3] => { results := [.lit (.bool true)], args := [d1, d2, d3] }
  | _ => none }
def fnExactDoorsOpenedRow : OpenClaim := { program := "ytchgjgidnecddaa", sum := "322beca4fd157e9ae54dad4b88be9a547056e0574ffc736a91e27dc1afa19221", func := "loop.example/g00947/laws.FnExactDoorsOpened", spec := "fnExactDoorsOpened", unfollowed := true, recurses := true, apart := false }
def FnExactDoorsOpenedSaid : Prop := fnExactDoorsOpenedRow.holds Try.pinned (OpenSpec.ofChange fnExactDoorsOpenedSpec)

/-- ITS FALSE NEIGHBOUR: 'it returns false'. Refute it at one input. -/
def fnExactDoorsOpenedWrong : ChangeSpec := { name := "fnExactDoorsOpened", fn := fun _ => fun
  | [d1, d2, d3] => { results := [.lit (.bool false)], args := [d1, d2, d3] }
  | _ => none }
def FnExactDoorsOpenedWrongFalsely : Prop := fnExactDoorsOpenedRow.holds Try.pinned (OpenSpec.ofChange fnExactDoorsOpenedWrong)

/-- 'laws.FnExactShortReason': WHATEVER THE INPUT: true; the input reads as it did. -/
def fnExactShortReasonSpec : ChangeSpec := { name := "fnExactShortReason", fn := fun _ => fun
  | [d1, d2, d3, d4] => { results := [.lit (.bool true)], args := [d1, d2, d3, d4] }
  | _ => none }
def fnExactShortReasonRow : OpenClaim := { program := "ytchgjgidnecddaa", sum := "322beca4fd157e9ae54dad4b88be9a547056e0574ffc736a91e27dc1afa19221", func := "loop.example/g00947/laws.FnExactShortReason", spec := "fnExactShortReason", unfollowed := true, recurses := true, apart := false }
def FnExactShortReasonSaid : Prop := fnExactShortReasonRow.holds Try.pinned (OpenSpec.ofChange fnExactShortReasonSpec)

/-- ITS FALSE NEIGHBOUR: 'it returns false'. Refute it at one input. -/
def fnExactShortReasonWrong : ChangeSpec := { name := "fnExactShortReason", fn := fun _ => fun
  | [d1, d2, d3, d4] => { results := [.lit (.bool false)], args := [d1, d2, d3, d4] }
  | _ => none }
def FnExactShortReasonWrongFalsely : Prop := fnExactShortReasonRow.holds Try.pinned (OpenSpec.ofChange fnExactShortReasonWrong)

/-- 'laws.FnExactRefute': WHATEVER THE INPUT: true; the input reads as it did. -/
def fnExactRefuteSpec : ChangeSpec := { name := "fnExactRefute", fn := fun _ => fun
  | [d] => { results := [.lit (.bool true)], args := [d] }
  | _ => none }
def fnExactRefuteRow : OpenClaim := { program := "ytchgjgidnecddaa", sum := "322beca4fd157e9ae54dad4b88be9a547056e0574ffc736a91e27dc1afa19221", func := "loop.example/g00947/laws.FnExactRefute", spec := "fnExactRefute", unfollowed := true, recurses := true, apart := false }
def FnExactRefuteSaid : Prop := fnExactRefuteRow.holds Try.pinned (OpenSpec.ofChange fnExactRefuteSpec)

/-- ITS FALSE NEIGHBOUR: 'it returns false'. Refute it at one input. -/
def fnExactRefuteWrong : ChangeSpec := { name := "fnExactRefute", fn := fun _ => fun
  | [d] => { results := [.lit (.bool false)], args := [d] }
  | _ => none }
def FnExactRefuteWrongFalsely : Prop := fnExactRefuteRow.holds Try.pinned (OpenSpec.ofChange fnExactRefuteWrong)

/-- 'laws.FnExactSeverityOf': WHATEVER THE INPUT: true; the input reads as it did. -/
def fnExactSeverityOfSpec : ChangeSpec := { name := "fnExactSeverityOf", fn := fun _ => fun
  | [d1, d2, d3] => { results := [.lit (.bool true)], args := [d1, d2, d3] }
  | _ => none }
def fnExactSeverityOfRow : OpenClaim := { program := "ytchgjgidnecddaa", sum := "322beca4fd157e9ae54dad4b88be9a547056e0574ffc736a91e27dc1afa19221", func := "loop.example/g00947/laws.FnExactSeverityOf", spec := "fnExactSeverityOf", unfollowed := true, recurses := true, apart := false }
def FnExactSeverityOfSaid : Prop := fnExactSeverityOfRow.holds Try.pinned (OpenSpec.ofChange fnExactSeverityOfSpec)

/-- ITS FALSE NEIGHBOUR: 'it returns false'. Refute it at one input. -/
def fnExactSeverityOfWrong : ChangeSpec := { name := "fnExactSeverityOf", fn := fun _ => fun
  | [d1, d2, d3] => { results := [.lit (.bool false)], args := [d1, d2, d3] }
  | _ => none }
def FnExactSeverityOfWrongFalsely : Prop := fnExactSeverityOfRow.holds Try.pinned (OpenSpec.ofChange fnExactSeverityOfWrong)

/-- 'laws.FnExactIsRefutation': WHATEVER THE INPUT: true; the input reads as it did. -/
def fnExactIsRefutationSpec : ChangeSpec := { name := "fnExactIsRefutation", fn := fun _ => fun
  | [d1, d2] => { results := [.lit (.bool true)], args := [d1, d2] }
  | _ => none }
def fnExactIsRefutationRow : OpenClaim := { program := "ytchgjgidnecddaa", sum := "322beca4fd157e9ae54dad4b88be9a547056e0574ffc736a91e27dc1afa19221", func := "loop.example/g00947/laws.FnExactIsRefutation", spec := "fnExactIsRefutation", unfollowed := true, recurses := true, apart := false }
def FnExactIsRefutationSaid : Prop := fnExactIsRefutationRow.holds Try.pinned (OpenSpec.ofChange fnExactIsRefutationSpec)

/-- ITS FALSE NEIGHBOUR: 'it returns false'. Refute it at one input. -/
def fnExactIsRefutationWrong : ChangeSpec := { name := "fnExactIsRefutation", fn := fun _ => fun
  | [d1, d2] => { results := [.lit (.bool false)], args := [d1, d2] }
  | _ => none }
def FnExactIsRefutationWrongFalsely : Prop := fnExactIsRefutationRow.holds Try.pinned (OpenSpec.ofChange fnExactIsRefutationWrong)

/-- 'laws.FnExactReadSteps': WHATEVER THE INPUT: true; the input reads as it did. -/
def fnExactReadStepsSpec : ChangeSpec := { name := "fnExactReadSteps", fn := fun _ => fun
  | [d1, d2] => { results := [.lit (.bool true)], args := [d1, d2] }
  | _ => none }
def fnExactReadStepsRow : OpenClaim := { program := "ytchgjgidnecddaa", sum := "322beca4fd157e9ae54dad4b88be9a547056e0574ffc736a91e27dc1afa19221", func := "loop.example/g00947/laws.FnExactReadSteps", spec := "fnExactReadSteps", unfollowed := true, recurses := true, apart := false }
def FnExactReadStepsSaid : Prop := fnExactReadStepsRow.holds Try.pinned (OpenSpec.ofChange fnExactReadStepsSpec)

/-- ITS FALSE NEIGHBOUR: 'it returns false'. Refute it at one input. -/
def fnExactReadStepsWrong : ChangeSpec := { name := "fnExactReadSteps", fn := fun _ => fun
  | [d1, d2] => { results := [.lit (.bool false)], args := [d1, d2] }
  | _ => none }
def FnExactReadStepsWrongFalsely : Prop := fnExactReadStepsRow.holds Try.pinned (OpenSpec.ofChange fnExactReadStepsWrong)

/-- 'laws.FnExactCountByLocks': WHATEVER THE INPUT: true; the input reads as it did. -/
def fnExactCountByLocksSpec : ChangeSpec := { name := "fnExactCountByLocks", fn := fun _ => fun
  | [d1, d2] => { results := [.lit (.bool true)], args := [d1, d2] }
  | _ => none }
def fnExactCountByLocksRow : OpenClaim := { program := "ytchgjgidnecddaa", sum := "322beca4fd157e9ae54dad4b88be9a547056e0574ffc736a91e27dc1afa19221", func := "loop.example/g00947/laws.FnExactCountByLocks", spec := "fnExactCountByLocks", unfollowed := true, recurses := true, apart := false }
def FnExactCountByLocksSaid : Prop := fnExactCountByLocksRow.holds Try.pinned (OpenSpec.ofChange fnExactCountByLocksSpec)

/-- ITS FALSE NEIGHBOUR: 'it returns false'. Refute it at one input. -/
def fnExactCountByLocksWrong : ChangeSpec := { name := "fnExactCountByLocks", fn := fun _ => fun
  | [d1, d2] => { results := [.lit (.bool false)], args := [d1, d2] }
  | _ => none }
def FnExactCountByLocksWrongFalsely : Prop := fnExactCountByLocksRow.holds Try.pinned (OpenSpec.ofChange fnExactCountByLocksWrong)

/-- 'laws.FnExactDoorGhosts': WHATEVER THE INPUT: true; the input reads as it did. -/
def fnExactDoorGhostsSpec : ChangeSpec := { name := "fnExactDoorGhosts", fn := fun _ => fun
  | [d1, d2, d3] => { results := [.lit (.bool true)], args := [d1, d2, d3] }
  | _ => none }
def fnExactDoorGhostsRow : OpenClaim := { program := "ytchgjgidnecddaa", sum := "322beca4fd157e9ae54dad4b88be9a547056e0574ffc736a91e27dc1afa19221", func := "loop.example/g00947/laws.FnExactDoorGhosts", spec := "fnExactDoorGhosts", unfollowed := true, recurses := true, apart := false }
def FnExactDoorGhostsSaid : Prop := fnExactDoorGhostsRow.holds Try.pinned (OpenSpec.ofChange fnExactDoorGhostsSpec)

/-- ITS FALSE NEIGHBOUR: 'it returns false'. Refute it at one input. -/
def fnExactDoorGhostsWrong : ChangeSpec := { name := "fnExactDoorGhosts", fn := fun _ => fun
  | [d1, d2, d3] => { results := [.lit (.bool false)], args := [d1, d2, d3] }
  | _ => none }
def FnExactDoorGhostsWrongFalsely : Prop := fnExactDoorGhostsRow.holds Try.pinned (OpenSpec.ofChange fnExactDoorGhostsWrong)

/-- 'laws.FnExactOpeningNumbers': WHATEVER THE INPUT: true; the input reads as it did. -/
def fnExactOpeningNumbersSpec : ChangeSpec := { name := "fnExactOpeningNumbers", fn := fun _ => fun
  | [d1, d2] => { results := [.lit (.bool true)], args := [d1, d2] }
  | _ => none }
def fnExactOpeningNumbersRow : OpenClaim := { program := "ytchgjgidnecddaa", sum := "322beca4fd157e9ae54dad4b88be9a547056e0574ffc736a91e27dc1afa19221", func := "loop.example/g00947/laws.FnExactOpeningNumbers", spec := "fnExactOpeningNumbers", unfollowed := true, recurses := true, apart := false }
def FnExactOpeningNumbersSaid : Prop := fnExactOpeningNumbersRow.holds Try.pinned (OpenSpec.ofChange fnExactOpeningNumbersSpec)

/-- ITS FALSE NEIGHBOUR: 'it returns false'. Refute it at one input. -/
def fnExactOpeningNumbersWrong : ChangeSpec := { name := "fnExactOpeningNumbers", fn := fun _ => fun
  | [d1, d2] => { results := [.lit (.bool false)], args := [d1, d2] }
  | _ => none }
def FnExactOpeningNumbersWrongFalsely : Prop := fnExactOpeningNumbersRow.holds Try.pinned (OpenSpec.ofChange fnExactOpeningNumbersWrong)

/-- 'laws.FnExactCountSystemGhosts': WHATEVER THE INPUT: true; the input reads as it did. -/
def fnExactCountSystemGhostsSpec : ChangeSpec := { name := "fnExactCountSystemGhosts", fn := fun _ => fun
  | [d1, d2] => { results := [.lit (.bool true)], args := [d1, d2] }
  | _ => none }
def fnExactCountSystemGhostsRow : OpenClaim := { program := "ytchgjgidnecddaa", sum := "322beca4fd157e9ae54dad4b88be9a547056e0574ffc736a91e27dc1afa19221", func := "loop.example/g00947/laws.FnExactCountSystemGhosts", spec := "fnExactCountSystemGhosts", unfollowed := true, recurses := true, apart := false }
def FnExactCountSystemGhostsSaid : Prop := fnExactCountSystemGhostsRow.holds Try.pinned (OpenSpec.ofChange fnExactCountSystemGhostsSpec)

/-- ITS FALSE NEIGHBOUR: 'it returns false'. Refute it at one input. -/
def fnExactCountSystemGhostsWrong : ChangeSpec := { name := "fnExactCountSystemGhosts", fn := fun _ => fun
  | [d1, d2] => { results := [.lit (.bool false)], args := [d1, d2] }
  | _ => none }
def FnExactCountSystemGhostsWrongFalsely : Prop := fnExactCountSystemGhostsRow.holds Try.pinned (OpenSpec.ofChange fnExactCountSystemGhostsWrong)

/-- 'laws.FnExactWornDoors': WHATEVER THE INPUT: true; the input reads as it did. -/
def fnExactWornDoorsSpec : ChangeSpec := { name := "fnExactWornDoors", fn := fun _ => fun
  | [d1, d2, d3, d4, d5] => { results := [.lit (.bool true)], args := [d1, d2, d3, d4, d5] }
  | _ => none }
def fnExactWornDoorsRow : OpenClaim := { program := "ytchgjgidnecddaa", sum := "322beca4fd157e9ae54dad4b88be9a547056e0574ffc736a91e27dc1afa19221", func := "loop.example/g00947/laws.FnExactWornDoors", spec := "fnExactWornDoors", unfollowed := true, recurses := true, apart := false }
def FnExactWornDoorsSaid : Prop := fnExactWornDoorsRow.holds Try.pinned (OpenSpec.ofChange fnExactWornDoorsSpec)

/-- ITS FALSE NEIGHBOUR: 'it returns false'. Refute it at one input. -/
def fnExactWornDoorsWrong : ChangeSpec := { name := "fnExactWornDoors", fn := fun _ => fun
  | [d1, d2, d3, d4, d5] => { results := [.lit (.bool false)], args := [d1, d2, d3, d4, d5] }
  | _ => none }
def FnExactWornDoorsWrongFalsely : Prop := fnExactWornDoorsRow.holds Try.pinned (OpenSpec.ofChange fnExactWornDoorsWrong)

/-- 'laws.FnExactGhostTable': WHATEVER THE INPUT: true; the input reads as it did. -/
def fnExactGhostTableSpec : ChangeSpec := { name := "fnExactGhostTable", fn := fun _ => fun
  | [d1, d2] => { results := [.lit (.bool true)], args := [d1, d2] }
  | _ => none }
def fnExactGhostTableRow : OpenClaim := { program := "ytchgjgidnecddaa", sum := "322beca4fd157e9ae54dad4b88be9a547056e0574ffc736a91e27dc1afa19221", func := "loop.example/g00947/laws.FnExactGhostTable", spec := "fnExactGhostTable", unfollowed := true, recurses := true, apart := false }
def FnExactGhostTableSaid : Prop := fnExactGhostTableRow.holds Try.pinned (OpenSpec.ofChange fnExactGhostTableSpec)

/-- ITS FALSE NEIGHBOUR: 'it returns false'. Refute it at one input. -/
def fnExactGhostTableWrong : ChangeSpec := { name := "fnExactGhostTable", fn := fun _ => fun
  | [d1, d2] => { results := [.lit (.bool false)], args := [d1, d2] }
  | _ => none }
def FnExactGhostTableWrongFalsely : Prop := fnExactGhostTableRow.holds Try.pinned (OpenSpec.ofChange fnExactGhostTableWrong)

/-- 'laws.FnExactBlamedRows': WHATEVER THE INPUT: true; the input reads as it did. -/
def fnExactBlamedRowsSpec : ChangeSpec := { name := "fnExactBlamedRows", fn := fun _ => fun
  | [d1, d2] => { results := [.lit (.bool true)], args := [d1, d2] }
  | _ => none }
def fnExactBlamedRowsRow : OpenClaim := { program := "ytchgjgidnecddaa", sum := "322beca4fd157e9ae54dad4b88be9a547056e0574ffc736a91e27dc1afa19221", func := "loop.example/g00947/laws.FnExactBlamedRows", spec := "fnExactBlamedRows", unfollowed := true, recurses := true, apart := false }
def FnExactBlamedRowsSaid : Prop := fnExactBlamedRowsRow.holds Try.pinned (OpenSpec.ofChange fnExactBlamedRowsSpec)

/-- ITS FALSE NEIGHBOUR: 'it returns false'. Refute it at one input. -/
def fnExactBlamedRowsWrong : ChangeSpec := { name := "fnExactBlamedRows", fn := fun _ => fun
  | [d1, d2] => { results := [.lit (.bool false)], args := [d1, d2] }
  | _ => none }
def FnExactBlamedRowsWrongFalsely : Prop := fnExactBlamedRowsRow.holds Try.pinned (OpenSpec.ofChange fnExactBlamedRowsWrong)

/-- 'laws.FnExactShiftSteps': WHATEVER THE INPUT: true; the input reads as it did. -/
def fnExactShiftStepsSpec : ChangeSpec := { name := "fnExactShiftSteps", fn := fun _ => fun
  | [d1, d2] => { results := [.lit (.bool true)], args := [d1, d2] }
  | _ => none }
def fnExactShiftStepsRow : OpenClaim := { program := "ytchgjgidnecddaa", sum := "322beca4fd157e9ae54dad4b88be9a547056e0574ffc736a91e27dc1afa19221", func := "loop.example/g00947/laws.FnExactShiftSteps", spec := "fnExactShiftSteps", unfollowed := true, recurses := true, apart := false }
def FnExactShiftStepsSaid : Prop := fnExactShiftStepsRow.holds Try.pinned (OpenSpec.ofChange fnExactShiftStepsSpec)

/-- ITS FALSE NEIGHBOUR: 'it returns false'. Refute it at one input. -/
def fnExactShiftStepsWrong : ChangeSpec := { name := "fnExactShiftSteps", fn := fun _ => fun
  | [d1, d2] => { results := [.lit (.bool false)], args := [d1, d2] }
  | _ => none }
def FnExactShiftStepsWrongFalsely : Prop := fnExactShiftStepsRow.holds Try.pinned (OpenSpec.ofChange fnExactShiftStepsWrong)

/-- 'laws.FnExactWorstSeverity': WHATEVER THE INPUT: true; the input reads as it did. -/
def fnExactWorstSeveritySpec : ChangeSpec := { name := "fnExactWorstSeverity", fn := fun _ => fun
  | [d1, d2] => { results := [.lit (.bool true)], args := [d1, d2] }
  | _ => none }
def fnExactWorstSeverityRow : OpenClaim := { program := "ytchgjgidnecddaa", sum := "322beca4fd157e9ae54dad4b88be9a547056e0574ffc736a91e27dc1afa19221", func := "loop.example/g00947/laws.FnExactWorstSeverity", spec := "fnExactWorstSeverity", unfollowed := true, recurses := true, apart := false }
def FnExactWorstSeveritySaid : Prop := fnExactWorstSeverityRow.holds Try.pinned (OpenSpec.ofChange fnExactWorstSeveritySpec)

/-- ITS FALSE NEIGHBOUR: 'it returns false'. Refute it at one input. -/
def fnExactWorstSeverityWrong : ChangeSpec := { name := "fnExactWorstSeverity", fn := fun _ => fun
  | [d1, d2] => { results := [.lit (.bool false)], args := [d1, d2] }
  | _ => none }
def FnExactWorstSeverityWrongFalsely : Prop := fnExactWorstSeverityRow.holds Try.pinned (OpenSpec.ofChange fnExactWorstSeverityWrong)

/- THE SECOND FORM. 'bulk': how many values and letters a reading holds, each counted each time it is reached (what is shared counts as often as it is met; a slice's spare places count too). A statement '..UptoSaid' is the law's where the arguments, and the package variables that the reading takes, are together of bulk at most 1048576: NARROWER than '..Said'. Prove '..Said' where nothing that the law and all that it calls make is longer than what came in: it says more and counts as full. Else prove '..UptoSaid'. A law counts once. -/
mutual
def uptoBulk {H : Type} : DataW H → Nat
  | .lit (.string bytes) => bytes.length + 1
  | .lit _ => 1
  | .nil => 1
  | .ptr d => uptoBulk d + 1
  | .slice elems spare => uptoBulkAll elems + uptoBulkAll spare + 1
  | .agg parts => uptoBulkAll parts + 1
  | .iface _ d => uptoBulk d + 1
  | .map entries => uptoBulkEntries entries + 1
  | .held _ => 1
def uptoBulkAll {H : Type} : List (DataW H) → Nat
  | [] => 0
  | d :: r => uptoBulk d + uptoBulkAll r
def uptoBulkEntries {H : Type} : List (Lit × DataW H) → Nat
  | [] => 0
  | x :: r => uptoBulkEntry x + uptoBulkEntries r
def uptoBulkEntry {H : Type} : Lit × DataW H → Nat
  | (.string bytes, d) => bytes.length + uptoBulk d + 1
  | (_, d) => uptoBulk d + 1
 end
def uptoSmall : (H : Type) → List (DataW H) → Bool := fun _ ds => decide (uptoBulkAll ds ≤ 1048576)
def OpenSpec.upto (s : _root_.Go.ChangeSpec) : _root_.Go.OpenSpec := { _root_.Go.OpenSpec.ofChange s with cond := some uptoSmall }

/-- 'laws.FnExactLeastWafers', WHERE WHAT IT READS IS OF BULK AT MOST 1048576: true; the input reads as it did. -/
def fnExactLeastWafersUptoRow : OpenClaim := { program := "ytchgjgidnecddaa", sum := "322beca4fd157e9ae54dad4b88be9a547056e0574ffc736a91e27dc1afa19221", func := "loop.example/g00947/laws.FnExactLeastWafers", spec := "fnExactLeastWafers", unfollowed := true, recurses := true, apart := false, narrowed := true }
def FnExactLeastWafersUptoSaid : Prop := fnExactLeastWafersUptoRow.holds Try.pinned (OpenSpec.upto fnExactLeastWafersSpec)

/-- 'laws.FnExactSpareKeys', WHERE WHAT IT READS IS OF BULK AT MOST 1048576: true; the input reads as it did. -/
def fnExactSpareKeysUptoRow : OpenClaim := { program := "ytchgjgidnecddaa", sum := "322beca4fd157e9ae54dad4b88be9a547056e0574ffc736a91e27dc1afa19221", func := "loop.example/g00947/laws.FnExactSpareKeys", spec := "fnExactSpareKeys", unfollowed := true, recurses := true, apart := false, narrowed := true }
def FnExactSpareKeysUptoSaid : Prop := fnExactSpareKeysUptoRow.holds Try.pinned (OpenSpec.upto fnExactSpareKeysSpec)

/-- 'laws.FnExactIsTooTight', WHERE WHAT IT READS IS OF BULK AT MOST 1048576: true; the input reads as it did. -/
def fnExactIsTooTightUptoRow : OpenClaim := { program := "ytchgjgidnecddaa", sum := "322beca4fd157e9ae54dad4b88be9a547056e0574ffc736a91e27dc1afa19221", func := "loop.example/g00947/laws.FnExactIsTooTight", spec := "fnExactIsTooTight", unfollowed := true, recurses := true, apart := false, narrowed := true }
def FnExactIsTooTightUptoSaid : Prop := fnExactIsTooTightUptoRow.holds Try.pinned (OpenSpec.upto fnExactIsTooTightSpec)

/-- 'laws.FnExactCountReasons', WHERE WHAT IT READS IS OF BULK AT MOST 1048576: true; the input reads as it did. -/
def fnExactCountReasonsUptoRow : OpenClaim := { program := "ytchgjgidnecddaa", sum := "322beca4fd157e9ae54dad4b88be9a547056e0574ffc736a91e27dc1afa19221", func := "loop.example/g00947/laws.FnExactCountReasons", spec := "fnExactCountReasons", unfollowed := true, recurses := true, apart := false, narrowed := true }
def FnExactCountReasonsUptoSaid : Prop := fnExactCountReasonsUptoRow.holds Try.pinned (OpenSpec.upto fnExactCountReasonsSpec)

/-- 'laws.FnExactIsReason', WHERE WHAT IT READS IS OF BULK AT MOST 1048576: true; the input reads as it did. -/
def fnExactIsReasonUptoRow : OpenClaim := { program := "ytchgjgidnecddaa", sum := "322beca4fd157e9ae54dad4b88be9a547056e0574ffc736a91e27dc1afa19221", func := "loop.example/g00947/laws.FnExactIsReason", spec := "fnExactIsReason", unfollowed := true, recurses := true, apart := false, narrowed := true }
def FnExactIsReasonUptoSaid : Prop := fnExactIsReasonUptoRow.holds Try.pinned (OpenSpec.upto fnExactIsReasonSpec)

/-- 'laws.FnExactKeepRows', WHERE WHAT IT READS IS OF BULK AT MOST 1048576: true; the input reads as it did. -/
def fnExactKeepRowsUptoRow : OpenClaim := { program := "ytchgjgidnecddaa", sum := "322beca4fd157e9ae54dad4b88be9a547056e0574ffc736a91e27dc1afa19221", func := "loop.example/g00947/laws.FnExactKeepRows", spec := "fnExactKeepRows", unfollowed := true, recurses := true, apart := false, narrowed := true }
def FnExactKeepRowsUptoSaid : Prop := fnExactKeepRowsUptoRow.holds Try.pinned (OpenSpec.upto fnExactKeepRowsSpec)

/-- 'laws.FnExactRowsOf', WHERE WHAT IT READS IS OF BULK AT MOST 1048576: true; the input reads as it did. -/
def fnExactRowsOfUptoRow : OpenClaim := { program := "ytchgjgidnecddaa", sum := "322beca4fd157e9ae54dad4b88be9a547056e0574ffc736a91e27dc1afa19221", func := "loop.example/g00947/laws.FnExactRowsOf", spec := "fnExactRowsOf", recurses := true, apart := false, narrowed := true }
def FnExactRowsOfUptoSaid : Prop := fnExactRowsOfUptoRow.holds Try.pinned (OpenSpec.upto fnExactRowsOfSpec)

/-- 'laws.FnExactFirstReason', WHERE WHAT IT READS IS OF BULK AT MOST 1048576: true; the input reads as it did. -/
def fnExactFirstReasonUptoRow : OpenClaim := { program := "ytchgjgidnecddaa", sum := "322beca4fd157e9ae54dad4b88be9a547056e0574ffc736a91e27dc1afa19221", func := "loop.example/g00947/laws.FnExactFirstReason", spec := "fnExactFirstReason", unfollowed := true, recurses := true, apart := false, narrowed := true }
def FnExactFirstReasonUptoSaid : Prop := fnExactFirstReasonUptoRow.holds Try.pinned (OpenSpec.upto fnExactFirstReasonSpec)

/-- 'laws.FnExactLongestChain', WHERE WHAT IT READS IS OF BULK AT MOST 1048576: true; the input reads as it did. -/
def fnExactLongestChainUptoRow : OpenClaim := { program := "ytchgjgidnecddaa", sum := "322beca4fd157e9ae54dad4b88be9a547056e0574ffc736a91e27dc1afa19221", func := "loop.example/g00947/laws.FnExactLongestChain", spec := "fnExactLongestChain", unfollowed := true, recurses := true, apart := false, narrowed := true }
def FnExactLongestChainUptoSaid : Prop := fnExactLongestChainUptoRow.holds Try.pinned (OpenSpec.upto fnExactLongestChainSpec)

/-- 'laws.FnExactCheapestDoor', WHERE WHAT IT READS IS OF BULK AT MOST 1048576: true; the input reads as it did. -/
def fnExactCheapestDoorUptoRow : OpenClaim := { program := "ytchgjgidnecddaa", sum := "322beca4fd157e9ae54dad4b88be9a547056e0574ffc736a91e27dc1afa19221", func := "loop.example/g00947/laws.FnExactCheapestDoor", spec := "fnExactCheapestDoor", unfollowed := true, recurses := true, apart := false, narrowed := true }
def FnExactCheapestDoorUptoSaid : Prop := fnExactCheapestDoorUptoRow.holds Try.pinned (OpenSpec.upto fnExactCheapestDoorSpec)

/-- 'laws.FnExactSystemWafers', WHERE WHAT IT READS IS OF BULK AT MOST 1048576: true; the input reads as it did. -/
def fnExactSystemWafersUptoRow : OpenClaim := { program := "ytchgjgidnecddaa", sum := "322beca4fd157e9ae54dad4b88be9a547056e0574ffc736a91e27dc1afa19221", func := "loop.example/g00947/laws.FnExactSystemWafers", spec := "fnExactSystemWafers", unfollowed := true, recurses := true, apart := false, narrowed := true }
def FnExactSystemWafersUptoSaid : Prop := fnExactSystemWafersUptoRow.holds Try.pinned (OpenSpec.upto fnExactSystemWafersSpec)

/-- 'laws.FnExactDoorsOpened', WHERE WHAT IT READS IS OF BULK AT MOST 1048576: true; the input reads as it did. -/
def fnExactDoorsOpenedUptoRow : OpenClaim := { program := "ytchgjgidnecddaa", sum := "322beca4fd157e9ae54dad4b88be9a547056e0574ffc736a91e27dc1afa19221", func := "loop.example/g00947/laws.FnExactDoorsOpened", spec := "fnExactDoorsOpened", unfollowed := true, recurses := true, apart := false, narrowed := true }
def FnExactDoorsOpenedUptoSaid : Prop := fnExactDoorsOpenedUptoRow.holds Try.pinned (OpenSpec.upto fnExactDoorsOpenedSpec)

/-- 'laws.FnExactShortReason', WHERE WHAT IT READS IS OF BULK AT MOST 1048576: true; the input reads as it did. -/
def fnExactShortReasonUptoRow : OpenClaim := { program := "ytchgjgidnecddaa", sum := "322beca4fd157e9ae54dad4b88be9a547056e0574ffc736a91e27dc1afa19221", func := "loop.example/g00947/laws.FnExactShortReason", spec := "fnExactShortReason", unfollowed := true, recurses := true, apart := false, narrowed := true }
def FnExactShortReasonUptoSaid : Prop := fnExactShortReasonUptoRow.holds Try.pinned (OpenSpec.upto fnExactShortReasonSpec)

/-- 'laws.FnExactRefute', WHERE WHAT IT READS IS OF BULK AT MOST 1048576: true; the input reads as it did. -/
def fnExactRefuteUptoRow : OpenClaim := { program := "ytchgjgidnecddaa", sum := "322beca4fd157e9ae54dad4b88be9a547056e0574ffc736a91e27dc1afa19221", func := "loop.example/g00947/laws.FnExactRefute", spec := "fnExactRefute", unfollowed := true, recurses := true, apart := false, narrowed := true }
def FnExactRefuteUptoSaid : Prop := fnExactRefuteUptoRow.holds Try.pinned (OpenSpec.upto fnExactRefuteSpec)

/-- 'laws.FnExactSeverityOf', WHERE WHAT IT READS IS OF BULK AT MOST 1048576: true; the input reads as it did. -/
def fnExactSeverityOfUptoRow : OpenClaim := { program := "ytchgjgidnecddaa", sum := "322beca4fd157e9ae54dad4b88be9a547056e0574ffc736a91e27dc1afa19221", func := "loop.example/g00947/laws.FnExactSeverityOf", spec := "fnExactSeverityOf", unfollowed := true, recurses := true, apart := false, narrowed := true }
def FnExactSeverityOfUptoSaid : Prop := fnExactSeverityOfUptoRow.holds Try.pinned (OpenSpec.upto fnExactSeverityOfSpec)

/-- 'laws.FnExactIsRefutation', WHERE WHAT IT READS IS OF BULK AT MOST 1048576: true; the input reads as it did. -/
def fnExactIsRefutationUptoRow : OpenClaim := { program := "ytchgjgidnecddaa", sum := "322beca4fd157e9ae54dad4b88be9a547056e0574ffc736a91e27dc1afa19221", func := "loop.example/g00947/laws.FnExactIsRefutation", spec := "fnExactIsRefutation", unfollowed := true, recurses := true, apart := false, narrowed := true }
def FnExactIsRefutationUptoSaid : Prop := fnExactIsRefutationUptoRow.holds Try.pinned (OpenSpec.upto fnExactIsRefutationSpec)

/-- 'laws.FnExactReadSteps', WHERE WHAT IT READS IS OF BULK AT MOST 1048576: true; the input reads as it did. -/
def fnExactReadStepsUptoRow : OpenClaim := { program := "ytchgjgidnecddaa", sum := "322beca4fd157e9ae54dad4b88be9a547056e0574ffc736a91e27dc1afa19221", func := "loop.example/g00947/laws.FnExactReadSteps", spec := "fnExactReadSteps", unfollowed := true, recurses := true, apart := false, narrowed := true }
def FnExactReadStepsUptoSaid : Prop := fnExactReadStepsUptoRow.holds Try.pinned (OpenSpec.upto fnExactReadStepsSpec)

/-- 'laws.FnExactCountByLocks', WHERE WHAT IT READS IS OF BULK AT MOST 1048576: true; the input reads as it did. -/
def fnExactCountByLocksUptoRow : OpenClaim := { program := "ytchgjgidnecddaa", sum := "322beca4fd157e9ae54dad4b88be9a547056e0574ffc736a91e27dc1afa19221", func := "loop.example/g00947/laws.FnExactCountByLocks", spec := "fnExactCountByLocks", unfollowed := true, recurses := true, apart := false, narrowed := true }
def FnExactCountByLocksUptoSaid : Prop := fnExactCountByLocksUptoRow.holds Try.pinned (OpenSpec.upto fnExactCountByLocksSpec)

/-- 'laws.FnExactDoorGhosts', WHERE WHAT IT READS IS OF BULK AT MOST 1048576: true; the input reads as it did. -/
def fnExactDoorGhostsUptoRow : OpenClaim := { program := "ytchgjgidnecddaa", sum := "322beca4fd157e9ae54dad4b88be9a547056e0574ffc736a91e27dc1afa19221", func := "loop.example/g00947/laws.FnExactDoorGhosts", spec := "fnExactDoorGhosts", unfollowed := true, recurses := true, apart := false, narrowed := true }
def FnExactDoorGhostsUptoSaid : Prop := fnExactDoorGhostsUptoRow.holds Try.pinned (OpenSpec.upto fnExactDoorGhostsSpec)

/-- 'laws.FnExactOpeningNumbers', WHERE WHAT IT READS IS OF BULK AT MOST 1048576: true; the input reads as it did. -/
def fnExactOpeningNumbersUptoRow : OpenClaim := { program := "ytchgjgidnecddaa", sum := "322beca4fd157e9ae54dad4b88be9a547056e0574ffc736a91e27dc1afa19221", func := "loop.example/g00947/laws.FnExactOpeningNumbers", spec := "fnExactOpeningNumbers", unfollowed := true, recurses := true, apart := false, narrowed := true }
def FnExactOpeningNumbersUptoSaid : Prop := fnExactOpeningNumbersUptoRow.holds Try.pinned (OpenSpec.upto fnExactOpeningNumbersSpec)

/-- 'laws.FnExactCountSystemGhosts', WHERE WHAT IT READS IS OF BULK AT MOST 1048576: true; the input reads as it did. -/
def fnExactCountSystemGhostsUptoRow : OpenClaim := { program := "ytchgjgidnecddaa", sum := "322beca4fd157e9ae54dad4b88be9a547056e0574ffc736a91e27dc1afa19221", func := "loop.example/g00947/laws.FnExactCountSystemGhosts", spec := "fnExactCountSystemGhosts", unfollowed := true, recurses := true, apart := false, narrowed := true }
def FnExactCountSystemGhostsUptoSaid : Prop := fnExactCountSystemGhostsUptoRow.holds Try.pinned (OpenSpec.upto fnExactCountSystemGhostsSpec)

/-- 'laws.FnExactWornDoors', WHERE WHAT IT READS IS OF BULK AT MOST 1048576: true; the input reads as it did. -/
def fnExactWornDoorsUptoRow : OpenClaim := { program := "ytchgjgidnecddaa", sum := "322beca4fd157e9ae54dad4b88be9a547056e0574ffc736a91e27dc1afa19221", func := "loop.example/g00947/laws.FnExactWornDoors", spec := "fnExactWornDoors", unfollowed := true, recurses := true, apart := false, narrowed := true }
def FnExactWornDoorsUptoSaid : Prop := fnExactWornDoorsUptoRow.holds Try.pinned (OpenSpec.upto fnExactWornDoorsSpec)

/-- 'laws.FnExactGhostTable', WHERE WHAT IT READS IS OF BULK AT MOST 1048576: true; the input reads as it did. -/
def fnExactGhostTableUptoRow : OpenClaim := { program := "ytchgjgidnecddaa", sum := "322beca4fd157e9ae54dad4b88be9a547056e0574ffc736a91e27dc1afa19221", func := "loop.example/g00947/laws.FnExactGhostTable", spec := "fnExactGhostTable", unfollowed := true, recurses := true, apart := false, narrowed := true }
def FnExactGhostTableUptoSaid : Prop := fnExactGhostTableUptoRow.holds Try.pinned (OpenSpec.upto fnExactGhostTableSpec)

/-- 'laws.FnExactBlamedRows', WHERE WHAT IT READS IS OF BULK AT MOST 1048576: true; the input reads as it did. -/
def fnExactBlamedRowsUptoRow : OpenClaim := { program := "ytchgjgidnecddaa", sum := "322beca4fd157e9ae54dad4b88be9a547056e0574ffc736a91e27dc1afa19221", func := "loop.example/g00947/laws.FnExactBlamedRows", spec := "fnExactBlamedRows", unfollowed := true, recurses := true, apart := false, narrowed := true }
def FnExactBlamedRowsUptoSaid : Prop := fnExactBlamedRowsUptoRow.holds Try.pinned (OpenSpec.upto fnExactBlamedRowsSpec)

/-- 'laws.FnExactShiftSteps', WHERE WHAT IT READS IS OF BULK AT MOST 1048576: true; the input reads as it did. -/
def fnExactShiftStepsUptoRow : OpenClaim := { program := "ytchgjgidnecddaa", sum := "322beca4fd157e9ae54dad4b88be9a547056e0574ffc736a91e27dc1afa19221", func := "loop.example/g00947/laws.FnExactShiftSteps", spec := "fnExactShiftSteps", unfollowed := true, recurses := true, apart := false, narrowed := true }
def FnExactShiftStepsUptoSaid : Prop := fnExactShiftStepsUptoRow.holds Try.pinned (OpenSpec.upto fnExactShiftStepsSpec)

/-- 'laws.FnExactWorstSeverity', WHERE WHAT IT READS IS OF BULK AT MOST 1048576: true; the input reads as it did. -/
def fnExactWorstSeverityUptoRow : OpenClaim := { program := "ytchgjgidnecddaa", sum := "322beca4fd157e9ae54dad4b88be9a547056e0574ffc736a91e27dc1afa19221", func := "loop.example/g00947/laws.FnExactWorstSeverity", spec := "fnExactWorstSeverity", unfollowed := true, recurses := true, apart := false, narrowed := true }
def FnExactWorstSeverityUptoSaid : Prop := fnExactWorstSeverityUptoRow.holds Try.pinned (OpenSpec.upto fnExactWorstSeveritySpec)

end Rows
end Go.Proofs.Ytchgjgidnecddaa
