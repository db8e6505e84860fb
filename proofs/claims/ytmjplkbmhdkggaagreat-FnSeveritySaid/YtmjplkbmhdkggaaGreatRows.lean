/-
  No cell of these rows narrows 'for every input' (looked for: loops, veiled, ifaces, maps, wideKeys, modest, calm, conditions, laid).
  DERIVED. THE GIVEN ROWS OF THIS SEAT. 4 by the template 'for every input the law returns true; each argument reads behind the call as it read before'; 0 by the template 'total and deterministic' (their statements: YtmjplkbmhdkggaaGreatTotals.lean).
  GIVEN WITH THE SEED: the statements are not yours to turn. If you find one false, say at which input.
  Laid BY PROGRAM, IN A SANDBOX (cutbox-rows.mjs): the forced cells as the released guide's own fill.sh prints them over the translation e65854ecb4bb4923… (all of the seat's roots in one cut). By AI agents, Wed Nov 11 2026. No macro, syntax, notation, axiom, sorry.
-/
import Derived.Test.YtmjplkbmhdkggaaGreatChecked
import GoSem.Claim
import GoSem.ClaimJoined
import GoSem.ClaimMapViews
import Derived.JoinedTies
import Derived.KernelRfl
namespace Go.Proofs.YtmjplkbmhdkggaaGreat
/- THE CELL 'sum', in the pinned program and in every row, IS THE sha256 OF THE DUMP (.gsa) THAT YtmjplkbmhdkggaaGreatProg.lean LOADS. Nothing in Lean hashes anything: it is a label: what it is worth is what the hold of that sum in a sandbox is worth. -/
noncomputable def Tryz.pinned : Pinned := { name := "ytmjplkbmhdkggaagreat", sum := "e65854ecb4bb49234fc0dea6c8e3d1321fbb14441bb5f401dc506dc3c9809be7", checked := Tryz.checked }
namespace Rows
def none {H : Type} : Left H := { results := [], args := [] }

/-- 'laws.FnExactWorstGhosts': WHATEVER THE INPUT: true; the input reads as it did. -/
def fnExactWorstGhostsSpec : ChangeSpec := { name := "fnExactWorstGhosts", fn := fun _ => fun
  | [d1, d2, d3] => { results := [.lit (.bool true)], args := [d1, d2, d3] }
  | _ => none }
def fnExactWorstGhostsRow : OpenClaim := { program := "ytmjplkbmhdkggaagreat", sum := "e65854ecb4bb49234fc0dea6c8e3d1321fbb14441bb5f401dc506dc3c9809be7", func := "loop.example/g00947/laws.FnExactWorstGhosts", spec := "fnExactWorstGhosts", unfollowed := true, recurses := true, apart := false }
def FnExactWorstGhostsSaid : Prop := fnExactWorstGhostsRow.holds Tryz.pinned (OpenSpec.ofChange fnExactWorstGhostsSpec)

/-- ITS FALSE NEIGHBOUR: 'it returns false'. Refute it at one input. -/
def fnExactWorstGhostsWrong : ChangeSpec := { name := "fnExactWorstGhosts", fn := fun _ => fun
  | [d1, d2, d3] => { results := [.lit (.bool false)], args := [d1, d2, d3] }
  | _ => none }
def FnExactWorstGhostsWrongFalsely : Prop := fnExactWorstGhostsRow.holds Tryz.pinned (OpenSpec.ofChange fnExactWorstGhostsWrong)

/-- 'laws.FnBlamed': WHATEVER THE INPUT: true; the input reads as it did. -/
def fnBlamedSpec : ChangeSpec := { name := "fnBlamed", fn := fun _ => fun
  | [d] => { results := [.lit (.bool true)], args := [d] }
  | _ => none }
def fnBlamedRow : OpenClaim := { program := "ytmjplkbmhdkggaagreat", sum := "e65854ecb4bb49234fc0dea6c8e3d1321fbb14441bb5f401dc506dc3c9809be7", func := "loop.example/g00947/laws.FnBlamed", spec := "fnBlamed", unfollowed := true, recurses := true, apart := false }
def FnBlamedSaid : Prop := fnBlamedRow.holds Tryz.pinned (OpenSpec.ofChange fnBlamedSpec)

/-- ITS FALSE NEIGHBOUR: 'it returns false'. Refute it at one input. -/
def fnBlamedWrong : ChangeSpec := { name := "fnBlamed", fn := fun _ => fun
  | [d] => { results := [.lit (.bool false)], args := [d] }
  | _ => none }
def FnBlamedWrongFalsely : Prop := fnBlamedRow.holds Tryz.pinned (OpenSpec.ofChange fnBlamedWrong)

/-- 'laws.FnRefuted': WHATEVER THE INPUT: true; the input reads as it did. -/
def fnRefutedSpec : ChangeSpec := { name := "fnRefuted", fn := fun _ => fun
  | [d] => { results := [.lit (.bool true)], args := [d] }
  | _ => none }
def fnRefutedRow : OpenClaim := { program := "ytmjplkbmhdkggaagreat", sum := "e65854ecb4bb49234fc0dea6c8e3d1321fbb14441bb5f401dc506dc3c9809be7", func := "loop.example/g00947/laws.FnRefuted", spec := "fnRefuted", unfollowed := true, recurses := true, apart := false }
def FnRefutedSaid : Prop := fnRefutedRow.holds Tryz.pinned (OpenSpec.ofChange fnRefutedSpec)

/-- ITS FALSE NEIGHBOUR: 'it returns false'. Refute it at one input. -/
def fnRefutedWrong : ChangeSpec := { name := "fnRefuted", fn := fun _ => fun
  | [d] => { results := [.lit (.bool false)], args := [d] }
  | _ => none }
def FnRefutedWrongFalsely : Prop := fnRefutedRow.holds Tryz.pinned (OpenSpec.ofChange fnRefutedWrong)

/-- 'laws.FnSeverity': WHATEVER THE INPUT: true; the input reads as it did. -/
def fnSeveritySpec : ChangeSpec := { name := "fnSeverity", fn := fun _ => fun
  | [d] => { results := [.lit (.bool true)], args := [d] }
  | _ => none }
def fnSeverityRow : OpenClaim := { program := "ytmjplkbmhdkggaagreat", sum := "e65854ecb4bb49234fc0dea6c8e3d1321fbb14441bb5f401dc506dc3c9809be7", func := "loop.example/g00947/laws.FnSeverity", spec := "fnSeverity", unfollowed := true, recurses := true, apart := false }
def FnSeveritySaid : Prop := fnSeverityRow.holds Tryz.pinned (OpenSpec.ofChange fnSeveritySpec)

/-- ITS FALSE NEIGHBOUR: 'it returns false'. Refute it at one input. -/
def fnSeverityWrong : ChangeSpec := { name := "fnSeverity", fn := fun _ => fun
  | [d] => { results := [.lit (.bool false)], args := [d] }
  | _ => none }
def FnSeverityWrongFalsely : Prop := fnSeverityRow.holds Tryz.pinned (OpenSpec.ofChange fnSeverityWrong)

/- THE SECOND FORM. 'bulk': how many values and letters a reading holds, each counted each time it is reached (what is shared counts as often as it is met; a slice's spare places count too). A statement '..UptoSaid' is the law's where the arguments, and the package variables that the reading takes, are together of bulk at most 1048576: NARROWER than '..Said'. Prove '..Said' where nothing that the law and all that it calls make is longer than what came in: it says more and counts as full. Else prove '..UptoSaid'. A law counts once. -/
mutual
def uptoBulk {H : Type} : DataW H → Nat
  | .lit (.string bytes) => bytes.length + 1
  | .lit _ => 1
  | .nil => 1
  | .ptr d => uptoBulk d + 1
  | .slice elems spare => uptoBulkAll elems + uptoBulkAll spare + 1
  | .agg parts => uptoBulkAll parts + 1
  | .iface _ d => uptoBulk d + 1
  | .map entries => uptoBulkEntries entries + 1
  | .held _ => 1
def uptoBulkAll {H : Type} : List (DataW H) → Nat
  | [] => 0
  | d :: r => uptoBulk d + uptoBulkAll r
def uptoBulkEntries {H : Type} : List (Lit × DataW H) → Nat
  | [] => 0
  | x :: r => uptoBulkEntry x + uptoBulkEntries r
def uptoBulkEntry {H : Type} : Lit × DataW H → Nat
  | (.string bytes, d) => bytes.length + uptoBulk d + 1
  | (_, d) => uptoBulk d + 1
 end
def uptoSmall : (H : Type) → List (DataW H) → Bool := fun _ ds => decide (uptoBulkAll ds ≤ 1048576)
def OpenSpec.upto (s : _root_.Go.ChangeSpec) : _root_.Go.OpenSpec := { _root_.Go.OpenSpec.ofChange s with cond := some uptoSmall }

/-- 'laws.FnExactWorstGhosts', WHERE WHAT IT READS IS OF BULK AT MOST 1048576: true; the input reads as it did. -/
def fnExactWorstGhostsUptoRow : OpenClaim := { program := "ytmjplkbmhdkggaagreat", sum := "e65854ecb4bb49234fc0dea6c8e3d1321fbb14441bb5f401dc506dc3c9809be7", func := "loop.example/g00947/laws.FnExactWorstGhosts", spec := "fnExactWorstGhosts", unfollowed := true, recurses := true, apart := false, narrowed := true }
def FnExactWorstGhostsUptoSaid : Prop := fnExactWorstGhostsUptoRow.holds Tryz.pinned (OpenSpec.upto fnExactWorstGhostsSpec)

/-- 'laws.FnBlamed', WHERE WHAT IT READS IS OF BULK AT MOST 1048576: true; the input reads as it did. -/
def fnBlamedUptoRow : OpenClaim := { program := "ytmjplkbmhdkggaagreat", sum := "e65854ecb4bb49234fc0dea6c8e3d1321fbb14441bb5f401dc506dc3c9809be7", func := "loop.example/g00947/laws.FnBlamed", spec := "fnBlamed", unfollowed := true, recurses := true, apart := false, narrowed := true }
def FnBlamedUptoSaid : Prop := fnBlamedUptoRow.holds Tryz.pinned (OpenSpec.upto fnBlamedSpec)

/-- 'laws.FnRefuted', WHERE WHAT IT READS IS OF BULK AT MOST 1048576: true; the input reads as it did. -/
def fnRefutedUptoRow : OpenClaim := { program := "ytmjplkbmhdkggaagreat", sum := "e65854ecb4bb49234fc0dea6c8e3d1321fbb14441bb5f401dc506dc3c9809be7", func := "loop.example/g00947/laws.FnRefuted", spec := "fnRefuted", unfollowed := true, recurses := true, apart := false, narrowed := true }
def FnRefutedUptoSaid : Prop := fnRefutedUptoRow.holds Tryz.pinned (OpenSpec.upto fnRefutedSpec)

/-- 'laws.FnSeverity', WHERE WHAT IT READS IS OF BULK AT MOST 1048576: true; the input reads as it did. -/
def fnSeverityUptoRow : OpenClaim := { program := "ytmjplkbmhdkggaagreat", sum := "e65854ecb4bb49234fc0dea6c8e3d1321fbb14441bb5f401dc506dc3c9809be7", func := "loop.example/g00947/laws.FnSeverity", spec := "fnSeverity", unfollowed := true, recurses := true, apart := false, narrowed := true }
def FnSeverityUptoSaid : Prop := fnSeverityUptoRow.holds Tryz.pinned (OpenSpec.upto fnSeveritySpec)

end Rows
end Go.Proofs.YtmjplkbmhdkggaaGreat
