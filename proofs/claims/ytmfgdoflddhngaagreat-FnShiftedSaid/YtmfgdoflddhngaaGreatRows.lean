/-
  No cell of these rows narrows 'for every input' (looked for: loops, veiled, ifaces, maps, wideKeys, modest, calm, conditions, laid).
  DERIVED. THE GIVEN ROWS OF THIS SEAT. 11 by the template 'for every input the law returns true; each argument reads behind the call as it read before'; 0 by the template 'total and deterministic' (their statements: YtmfgdoflddhngaaGreatTotals.lean).
  GIVEN WITH THE SEED: the statements are not yours to turn. If you find one false, say at which input.
  Laid BY PROGRAM, IN A SANDBOX (cutbox-rows.mjs): the forced cells as the released guide's own fill.sh prints them over the translation 96200b88afdb3c83… (all of the seat's roots in one cut). By AI agents, Wed Nov 11 2026. No macro, syntax, notation, axiom, sorry.
-/
import Derived.Test.YtmfgdoflddhngaaGreatChecked
import GoSem.Claim
import GoSem.ClaimJoined
import GoSem.ClaimMapViews
import Derived.JoinedTies
import Derived.KernelRfl
namespace Go.Proofs.YtmfgdoflddhngaaGreat
/- THE CELL 'sum', in the pinned program and in every row, IS THE sha256 OF THE DUMP (.gsa) THAT YtmfgdoflddhngaaGreatProg.lean LOADS. Nothing in Lean hashes anything: it is a label: what it is worth is what the hold of that sum in a sandbox is worth. -/
noncomputable def Tryz.pinned : Pinned := { name := "ytmfgdoflddhngaagreat", sum := "96200b88afdb3c83742b8de168dfb4d11962960b1528d073cd0700553f140258", checked := Tryz.checked }
namespace Rows
def none {H : Type} : Left H := { results := [], args := [] }

/-- 'laws.FnShifted': WHATEVER THE INPUT: true; the input reads as it did. -/
def fnShiftedSpec : ChangeSpec := { name := "fnShifted", fn := fun _ => fun
  | [d] => { results := [.lit (.bool true)], args := [d] }
  | _ => none }
def fnShiftedRow : OpenClaim := { program := "ytmfgdoflddhngaagreat", sum := "96200b88afdb3c83742b8de168dfb4d11962960b1528d073cd0700553f140258", func := "loop.example/g00947/laws.FnShifted", spec := "fnShifted", unfollowed := true, recurses := true, apart := false }
def FnShiftedSaid : Prop := fnShiftedRow.holds Tryz.pinned (OpenSpec.ofChange fnShiftedSpec)

/-- ITS FALSE NEIGHBOUR: 'it returns false'. Refute it at one input. -/
def fnShiftedWrong : ChangeSpec := { name := "fnShifted", fn := fun _ => fun
  | [d] => { results := [.lit (.bool false)], args := [d] }
  | _ => none }
def FnShiftedWrongFalsely : Prop := fnShiftedRow.holds Tryz.pinned (OpenSpec.ofChange fnShiftedWrong)

/-- 'laws.FnCompared': WHATEVER THE INPUT: true; the input reads as it did. -/
def fnComparedSpec : ChangeSpec := { name := "fnCompared", fn := fun _ => fun
  | [d] => { results := [.lit (.bool true)], args := [d] }
  | _ => none }
def fnComparedRow : OpenClaim := { program := "ytmfgdoflddhngaagreat", sum := "96200b88afdb3c83742b8de168dfb4d11962960b1528d073cd0700553f140258", func := "loop.example/g00947/laws.FnCompared", spec := "fnCompared", unfollowed := true, recurses := true, apart := false }
def FnComparedSaid : Prop := fnComparedRow.holds Tryz.pinned (OpenSpec.ofChange fnComparedSpec)

/-- ITS FALSE NEIGHBOUR: 'it returns false'. Refute it at one input. -/
def fnComparedWrong : ChangeSpec := { name := "fnCompared", fn := fun _ => fun
  | [d] => { results := [.lit (.bool false)], args := [d] }
  | _ => none }
def FnComparedWrongFalsely : Prop := fnComparedRow.holds Tryz.pinned (OpenSpec.ofChange fnComparedWrong)

/-- 'laws.FnWornDoors': WHATEVER THE INPUT: true; the input reads as it did. -/
def fnWornDoorsSpec : ChangeSpec := { name := "fnWornDoors", fn := fun _ => fun
  | [d] => { results := [.lit (.bool true)], args := [d] }
  | _ => none }
def fnWornDoorsRow : OpenClaim := { program := "ytmfgdoflddhngaagreat", sum := "96200b88afdb3c83742b8de168dfb4d11962960b1528d073cd0700553f140258", func := "loop.example/g00947/laws.FnWornDoors", spec := "fnWornDoors", unfollowed := true, recurses := true, apart := false }
def FnWornDoorsSaid : Prop := fnWornDoorsRow.holds Tryz.pinned (OpenSpec.ofChange fnWornDoorsSpec)

/-- ITS FALSE NEIGHBOUR: 'it returns false'. Refute it at one input. -/
def fnWornDoorsWrong : ChangeSpec := { name := "fnWornDoors", fn := fun _ => fun
  | [d] => { results := [.lit (.bool false)], args := [d] }
  | _ => none }
def FnWornDoorsWrongFalsely : Prop := fnWornDoorsRow.holds Tryz.pinned (OpenSpec.ofChange fnWornDoorsWrong)

/-- 'laws.FnGhostTables': WHATEVER THE INPUT: true; the input reads as it did. -/
def fnGhostTablesSpec : ChangeSpec := { name := "fnGhostTables", fn := fun _ => fun
  | [d] => { results := [.lit (.bool true)], args := [d] }
  | _ => none }
def fnGhostTablesRow : OpenClaim := { program := "ytmfgdoflddhngaagreat", sum := "96200b88afdb3c83742b8de168dfb4d11962960b1528d073cd0700553f140258", func := "loop.example/g00947/laws.FnGhostTables", spec := "fnGhostTables", unfollowed := true, recurses := true, apart := false }
def FnGhostTablesSaid : Prop := fnGhostTablesRow.holds Tryz.pinned (OpenSpec.ofChange fnGhostTablesSpec)

/-- ITS FALSE NEIGHBOUR: 'it returns false'. Refute it at one input. -/
def fnGhostTablesWrong : ChangeSpec := { name := "fnGhostTables", fn := fun _ => fun
  | [d] => { results := [.lit (.bool false)], args := [d] }
  | _ => none }
def FnGhostTablesWrongFalsely : Prop := fnGhostTablesRow.holds Tryz.pinned (OpenSpec.ofChange fnGhostTablesWrong)

/-- 'laws.FnOpeningNumbers': WHATEVER THE INPUT: true; the input reads as it did. -/
def fnOpeningNumbersSpec : ChangeSpec := { name := "fnOpeningNumbers", fn := fun _ => fun
  | [d] => { results := [.lit (.bool true)], args := [d] }
  | _ => none }
def fnOpeningNumbersRow : OpenClaim := { program := "ytmfgdoflddhngaagreat", sum := "96200b88afdb3c83742b8de168dfb4d11962960b1528d073cd0700553f140258", func := "loop.example/g00947/laws.FnOpeningNumbers", spec := "fnOpeningNumbers", unfollowed := true, recurses := true, apart := false }
def FnOpeningNumbersSaid : Prop := fnOpeningNumbersRow.holds Tryz.pinned (OpenSpec.ofChange fnOpeningNumbersSpec)

/-- ITS FALSE NEIGHBOUR: 'it returns false'. Refute it at one input. -/
def fnOpeningNumbersWrong : ChangeSpec := { name := "fnOpeningNumbers", fn := fun _ => fun
  | [d] => { results := [.lit (.bool false)], args := [d] }
  | _ => none }
def FnOpeningNumbersWrongFalsely : Prop := fnOpeningNumbersRow.holds Tryz.pinned (OpenSpec.ofChange fnOpeningNumbersWrong)

/-- 'laws.FnReasons': WHATEVER THE INPUT: true; the input reads as it did. -/
def fnReasonsSpec : ChangeSpec := { name := "fnReasons", fn := fun _ => fun
  | [d] => { results := [.lit (.bool true)], args := [d] }
  | _ => none }
def fnReasonsRow : OpenClaim := { program := "ytmfgdoflddhngaagreat", sum := "96200b88afdb3c83742b8de168dfb4d11962960b1528d073cd0700553f140258", func := "loop.example/g00947/laws.FnReasons", spec := "fnReasons", unfollowed := true, recurses := true, apart := false }
def FnReasonsSaid : Prop := fnReasonsRow.holds Tryz.pinned (OpenSpec.ofChange fnReasonsSpec)

/-- ITS FALSE NEIGHBOUR: 'it returns false'. Refute it at one input. -/
def fnReasonsWrong : ChangeSpec := { name := "fnReasons", fn := fun _ => fun
  | [d] => { results := [.lit (.bool false)], args := [d] }
  | _ => none }
def FnReasonsWrongFalsely : Prop := fnReasonsRow.holds Tryz.pinned (OpenSpec.ofChange fnReasonsWrong)

/-- 'laws.FnTop': WHATEVER THE INPUT: true; the input reads as it did. -/
def fnTopSpec : ChangeSpec := { name := "fnTop", fn := fun _ => fun
  | [d] => { results := [.lit (.bool true)], args := [d] }
  | _ => none }
def fnTopRow : OpenClaim := { program := "ytmfgdoflddhngaagreat", sum := "96200b88afdb3c83742b8de168dfb4d11962960b1528d073cd0700553f140258", func := "loop.example/g00947/laws.FnTop", spec := "fnTop", unfollowed := true, recurses := true, apart := false }
def FnTopSaid : Prop := fnTopRow.holds Tryz.pinned (OpenSpec.ofChange fnTopSpec)

/-- ITS FALSE NEIGHBOUR: 'it returns false'. Refute it at one input. -/
def fnTopWrong : ChangeSpec := { name := "fnTop", fn := fun _ => fun
  | [d] => { results := [.lit (.bool false)], args := [d] }
  | _ => none }
def FnTopWrongFalsely : Prop := fnTopRow.holds Tryz.pinned (OpenSpec.ofChange fnTopWrong)

/-- 'laws.FnOutsiders': WHATEVER THE INPUT: true; the input reads as it did. -/
def fnOutsidersSpec : ChangeSpec := { name := "fnOutsiders", fn := fun _ => fun
  | [d] => { results := [.lit (.bool true)], args := [d] }
  | _ => none }
def fnOutsidersRow : OpenClaim := { program := "ytmfgdoflddhngaagreat", sum := "96200b88afdb3c83742b8de168dfb4d11962960b1528d073cd0700553f140258", func := "loop.example/g00947/laws.FnOutsiders", spec := "fnOutsiders", unfollowed := true, recurses := true, apart := false }
def FnOutsidersSaid : Prop := fnOutsidersRow.holds Tryz.pinned (OpenSpec.ofChange fnOutsidersSpec)

/-- ITS FALSE NEIGHBOUR: 'it returns false'. Refute it at one input. -/
def fnOutsidersWrong : ChangeSpec := { name := "fnOutsiders", fn := fun _ => fun
  | [d] => { results := [.lit (.bool false)], args := [d] }
  | _ => none }
def FnOutsidersWrongFalsely : Prop := fnOutsidersRow.holds Tryz.pinned (OpenSpec.ofChange fnOutsidersWrong)

/-- 'laws.FnBlamed': WHATEVER THE INPUT: true; the input reads as it did. -/
def fnBlamedSpec : ChangeSpec := { name := "fnBlamed", fn := fun _ => fun
  | [d] => { results := [.lit (.bool true)], args := [d] }
  | _ => none }
def fnBlamedRow : OpenClaim := { program := "ytmfgdoflddhngaagreat", sum := "96200b88afdb3c83742b8de168dfb4d11962960b1528d073cd0700553f140258", func := "loop.example/g00947/laws.FnBlamed", spec := "fnBlamed", unfollowed := true, recurses := true, apart := false }
def FnBlamedSaid : Prop := fnBlamedRow.holds Tryz.pinned (OpenSpec.ofChange fnBlamedSpec)

/-- ITS FALSE NEIGHBOUR: 'it returns false'. Refute it at one input. -/
def fnBlamedWrong : ChangeSpec := { name := "fnBlamed", fn := fun _ => fun
  | [d] => { results := [.lit (.bool false)], args := [d] }
  | _ => none }
def FnBlamedWrongFalsely : Prop := fnBlamedRow.holds Tryz.pinned (OpenSpec.ofChange fnBlamedWrong)

/-- 'laws.FnNextDesigns': WHATEVER THE INPUT: true; the input reads as it did. -/
def fnNextDesignsSpec : ChangeSpec := { name := "fnNextDesigns", fn := fun _ => fun
  | [d] => { results := [.lit (.bool true)], args := [d] }
  | _ => none }
def fnNextDesignsRow : OpenClaim := { program := "ytmfgdoflddhngaagreat", sum := "96200b88afdb3c83742b8de168dfb4d11962960b1528d073cd0700553f140258", func := "loop.example/g00947/laws.FnNextDesigns", spec := "fnNextDesigns", unfollowed := true, recurses := true, apart := false }
def FnNextDesignsSaid : Prop := fnNextDesignsRow.holds Tryz.pinned (OpenSpec.ofChange fnNextDesignsSpec)

/-- ITS FALSE NEIGHBOUR: 'it returns false'. Refute it at one input. -/
def fnNextDesignsWrong : ChangeSpec := { name := "fnNextDesigns", fn := fun _ => fun
  | [d] => { results := [.lit (.bool false)], args := [d] }
  | _ => none }
def FnNextDesignsWrongFalsely : Prop := fnNextDesignsRow.holds Tryz.pinned (OpenSpec.ofChange fnNextDesignsWrong)

/-- 'laws.FnTight': WHATEVER THE INPUT: true; the input reads as it did. -/
def fnTightSpec : ChangeSpec := { name := "fnTight", fn := fun _ => fun
  | [d] => { results := [.lit (.bool true)], args := [d] }
  | _ => none }
def fnTightRow : OpenClaim := { program := "ytmfgdoflddhngaagreat", sum := "96200b88afdb3c83742b8de168dfb4d11962960b1528d073cd0700553f140258", func := "loop.example/g00947/laws.FnTight", spec := "fnTight", unfollowed := true, recurses := true, apart := false }
def FnTightSaid : Prop := fnTightRow.holds Tryz.pinned (OpenSpec.ofChange fnTightSpec)

/-- ITS FALSE NEIGHBOUR: 'it returns false'. Refute it at one input. -/
def fnTightWrong : ChangeSpec := { name := "fnTight", fn := fun _ => fun
  | [d] => { results := [.lit (.bool false)], args := [d] }
  | _ => none }
def FnTightWrongFalsely : Prop := fnTightRow.holds Tryz.pinned (OpenSpec.ofChange fnTightWrong)

/- THE SECOND FORM. 'bulk': how many values and letters a reading holds, each counted each time it is reached (what is shared counts as often as it is met; a slice's spare places count too). A statement '..UptoSaid' is the law's where the arguments, and the package variables that the reading takes, are together of bulk at most 1048576: NARROWER than '..Said'. Prove '..Said' where nothing that the law and all that it calls make is longer than what came in: it says more and counts as full. Else prove '..UptoSaid'. A law counts once. -/
mutual
def uptoBulk {H : Type} : DataW H → Nat
  | .lit (.string bytes) => bytes.length + 1
  | .lit _ => 1
  | .nil => 1
  | .ptr d => uptoBulk d + 1
  | .slice elems spare => uptoBulkAll elems + uptoBulkAll spare + 1
  | .agg parts => uptoBulkAll parts + 1
  | .iface _ d => uptoBulk d + 1
  | .map entries => uptoBulkEntries entries + 1
  | .held _ => 1
def uptoBulkAll {H : Type} : List (DataW H) → Nat
  | [] => 0
  | d :: r => uptoBulk d + uptoBulkAll r
def uptoBulkEntries {H : Type} : List (Lit × DataW H) → Nat
  | [] => 0
  | x :: r => uptoBulkEntry x + uptoBulkEntries r
def uptoBulkEntry {H : Type} : Lit × DataW H → Nat
  | (.string bytes, d) => bytes.length + uptoBulk d + 1
  | (_, d) => uptoBulk d + 1
 end
def uptoSmall : (H : Type) → List (DataW H) → Bool := fun _ ds => decide (uptoBulkAll ds ≤ 1048576)
def OpenSpec.upto (s : _root_.Go.ChangeSpec) : _root_.Go.OpenSpec := { _root_.Go.OpenSpec.ofChange s with cond := some uptoSmall }

/-- 'laws.FnShifted', WHERE WHAT IT READS IS OF BULK AT MOST 1048576: true; the input reads as it did. -/
def fnShiftedUptoRow : OpenClaim := { program := "ytmfgdoflddhngaagreat", sum := "96200b88afdb3c83742b8de168dfb4d11962960b1528d073cd0700553f140258", func := "loop.example/g00947/laws.FnShifted", spec := "fnShifted", unfollowed := true, recurses := true, apart := false, narrowed := true }
def FnShiftedUptoSaid : Prop := fnShiftedUptoRow.holds Tryz.pinned (OpenSpec.upto fnShiftedSpec)

/-- 'laws.FnCompared', WHERE WHAT IT READS IS OF BULK AT MOST 1048576: true; the input reads as it did. -/
def fnComparedUptoRow : OpenClaim := { program := "ytmfgdoflddhngaagreat", sum := "96200b88afdb3c83742b8de168dfb4d11962960b1528d073cd0700553f140258", func := "loop.example/g00947/laws.FnCompared", spec := "fnCompared", unfollowed := true, recurses := true, apart := false, narrowed := true }
def FnComparedUptoSaid : Prop := fnComparedUptoRow.holds Tryz.pinned (OpenSpec.upto fnComparedSpec)

/-- 'laws.FnWornDoors', WHERE WHAT IT READS IS OF BULK AT MOST 1048576: true; the input reads as it did. -/
def fnWornDoorsUptoRow : OpenClaim := { program := "ytmfgdoflddhngaagreat", sum := "96200b88afdb3c83742b8de168dfb4d11962960b1528d073cd0700553f140258", func := "loop.example/g00947/laws.FnWornDoors", spec := "fnWornDoors", unfollowed := true, recurses := true, apart := false, narrowed := true }
def FnWornDoorsUptoSaid : Prop := fnWornDoorsUptoRow.holds Tryz.pinned (OpenSpec.upto fnWornDoorsSpec)

/-- 'laws.FnGhostTables', WHERE WHAT IT READS IS OF BULK AT MOST 1048576: true; the input reads as it did. -/
def fnGhostTablesUptoRow : OpenClaim := { program := "ytmfgdoflddhngaagreat", sum := "96200b88afdb3c83742b8de168dfb4d11962960b1528d073cd0700553f140258", func := "loop.example/g00947/laws.FnGhostTables", spec := "fnGhostTables", unfollowed := true, recurses := true, apart := false, narrowed := true }
def FnGhostTablesUptoSaid : Prop := fnGhostTablesUptoRow.holds Tryz.pinned (OpenSpec.upto fnGhostTablesSpec)

/-- 'laws.FnOpeningNumbers', WHERE WHAT IT READS IS OF BULK AT MOST 1048576: true; the input reads as it did. -/
def fnOpeningNumbersUptoRow : OpenClaim := { program := "ytmfgdoflddhngaagreat", sum := "96200b88afdb3c83742b8de168dfb4d11962960b1528d073cd0700553f140258", func := "loop.example/g00947/laws.FnOpeningNumbers", spec := "fnOpeningNumbers", unfollowed := true, recurses := true, apart := false, narrowed := true }
def FnOpeningNumbersUptoSaid : Prop := fnOpeningNumbersUptoRow.holds Tryz.pinned (OpenSpec.upto fnOpeningNumbersSpec)

/-- 'laws.FnReasons', WHERE WHAT IT READS IS OF BULK AT MOST 1048576: true; the input reads as it did. -/
def fnReasonsUptoRow : OpenClaim := { program := "ytmfgdoflddhngaagreat", sum := "96200b88afdb3c83742b8de168dfb4d11962960b1528d073cd0700553f140258", func := "loop.example/g00947/laws.FnReasons", spec := "fnReasons", unfollowed := true, recurses := true, apart := false, narrowed := true }
def FnReasonsUptoSaid : Prop := fnReasonsUptoRow.holds Tryz.pinned (OpenSpec.upto fnReasonsSpec)

/-- 'laws.FnTop', WHERE WHAT IT READS IS OF BULK AT MOST 1048576: true; the input reads as it did. -/
def fnTopUptoRow : OpenClaim := { program := "ytmfgdoflddhngaagreat", sum := "96200b88afdb3c83742b8de168dfb4d11962960b1528d073cd0700553f140258", func := "loop.example/g00947/laws.FnTop", spec := "fnTop", unfollowed := true, recurses := true, apart := false, narrowed := true }
def FnTopUptoSaid : Prop := fnTopUptoRow.holds Tryz.pinned (OpenSpec.upto fnTopSpec)

/-- 'laws.FnOutsiders', WHERE WHAT IT READS IS OF BULK AT MOST 1048576: true; the input reads as it did. -/
def fnOutsidersUptoRow : OpenClaim := { program := "ytmfgdoflddhngaagreat", sum := "96200b88afdb3c83742b8de168dfb4d11962960b1528d073cd0700553f140258", func := "loop.example/g00947/laws.FnOutsiders", spec := "fnOutsiders", unfollowed := true, recurses := true, apart := false, narrowed := true }
def FnOutsidersUptoSaid : Prop := fnOutsidersUptoRow.holds Tryz.pinned (OpenSpec.upto fnOutsidersSpec)

/-- 'laws.FnBlamed', WHERE WHAT IT READS IS OF BULK AT MOST 1048576: true; the input reads as it did. -/
def fnBlamedUptoRow : OpenClaim := { program := "ytmfgdoflddhngaagreat", sum := "96200b88afdb3c83742b8de168dfb4d11962960b1528d073cd0700553f140258", func := "loop.example/g00947/laws.FnBlamed", spec := "fnBlamed", unfollowed := true, recurses := true, apart := false, narrowed := true }
def FnBlamedUptoSaid : Prop := fnBlamedUptoRow.holds Tryz.pinned (OpenSpec.upto fnBlamedSpec)

/-- 'laws.FnNextDesigns', WHERE WHAT IT READS IS OF BULK AT MOST 1048576: true; the input reads as it did. -/
def fnNextDesignsUptoRow : OpenClaim := { program := "ytmfgdoflddhngaagreat", sum := "96200b88afdb3c83742b8de168dfb4d11962960b1528d073cd0700553f140258", func := "loop.example/g00947/laws.FnNextDesigns", spec := "fnNextDesigns", unfollowed := true, recurses := true, apart := false, narrowed := true }
def FnNextDesignsUptoSaid : Prop := fnNextDesignsUptoRow.holds Tryz.pinned (OpenSpec.upto fnNextDesignsSpec)

/-- 'laws.FnTight', WHERE WHAT IT READS IS OF BULK AT MOST 1048576: true; the input reads as it did. -/
def fnTightUptoRow : OpenClaim := { program := "ytmfgdoflddhngaagreat", sum := "96200b88afdb3c83742b8de168dfb4d11962960b1528d073cd0700553f140258", func := "loop.example/g00947/laws.FnTight", spec := "fnTight", unfollowed := true, recurses := true, apart := false, narrowed := true }
def FnTightUptoSaid : Prop := fnTightUptoRow.holds Tryz.pinned (OpenSpec.upto fnTightSpec)

end Rows
end Go.Proofs.YtmfgdoflddhngaaGreat
