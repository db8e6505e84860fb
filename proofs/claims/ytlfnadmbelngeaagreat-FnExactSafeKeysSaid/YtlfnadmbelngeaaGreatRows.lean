/-
  No cell of these rows narrows 'for every input' (looked for: loops, veiled, ifaces, maps, wideKeys, modest, calm, conditions, laid).
  DERIVED. THE GIVEN ROWS OF THIS SEAT. 5 by the template 'for every input the law returns true; each argument reads behind the call as it read before'; 0 by the template 'total and deterministic' (their statements: YtlfnadmbelngeaaGreatTotals.lean).
  GIVEN WITH THE SEED: the statements are not yours to turn. If you find one false, say at which input.
  Laid BY PROGRAM, IN A SANDBOX (cutbox-rows.mjs): the forced cells as the released guide's own fill.sh prints them over the translation cf4e3a9a07d294b7… (all of the seat's roots in one cut). By AI agents, Wed Nov 11 2026. No macro, syntax, notation, axiom, sorry.
-/
import Derived.Test.YtlfnadmbelngeaaGreatChecked
import GoSem.Claim
import GoSem.ClaimJoined
import GoSem.ClaimMapViews
import Derived.JoinedTies
import Derived.KernelRfl
namespace Go.Proofs.YtlfnadmbelngeaaGreat
/- THE CELL 'sum', in the pinned program and in every row, IS THE sha256 OF THE DUMP (.gsa) THAT YtlfnadmbelngeaaGreatProg.lean LOADS. Nothing in Lean hashes anything: it is a label: what it is worth is what the hold of that sum in a sandbox is worth. -/
noncomputable def Tryz.pinned : Pinned := { name := "ytlfnadmbelngeaagreat", sum := "cf4e3a9a07d294b775e072948a4dae3e8e5380b453b5377d0cf39279aba12fc9", checked := Tryz.checked }
namespace Rows
def none {H : Type} : Left H := { results := [], args := [] }

/-- 'laws.FnExactProfileOf': WHATEVER THE INPUT: true; the input reads as it did. -/
def fnExactProfileOfSpec : ChangeSpec := { name := "fnExactProfileOf", fn := fun _ => fun
  | [d1, d2] => { results := [.lit (.bool true)], args := [d1, d2] }
  | _ => none }
def fnExactProfileOfRow : OpenClaim := { program := "ytlfnadmbelngeaagreat", sum := "cf4e3a9a07d294b775e072948a4dae3e8e5380b453b5377d0cf39279aba12fc9", func := "loop.example/g00947/laws.FnExactProfileOf", spec := "fnExactProfileOf", unfollowed := true, recurses := true, apart := false }
def FnExactProfileOfSaid : Prop := fnExactProfileOfRow.holds Tryz.pinned (OpenSpec.ofChange fnExactProfileOfSpec)

/-- ITS FALSE NEIGHBOUR: 'it returns false'. Refute it at one input. -/
def fnExactProfileOfWrong : ChangeSpec := { name := "fnExactProfileOf", fn := fun _ => fun
  | [d1, d2] => { results := [.lit (.bool false)], args := [d1, d2] }
  | _ => none }
def FnExactProfileOfWrongFalsely : Prop := fnExactProfileOfRow.holds Tryz.pinned (OpenSpec.ofChange fnExactProfileOfWrong)

/-- 'laws.FnExactMeanSeverity': WHATEVER THE INPUT: true; the input reads as it did. -/
def fnExactMeanSeveritySpec : ChangeSpec := { name := "fnExactMeanSeverity", fn := fun _ => fun
  | [d1, d2] => { results := [.lit (.bool true)], args := [d1, d2] }
  | _ => none }
def fnExactMeanSeverityRow : OpenClaim := { program := "ytlfnadmbelngeaagreat", sum := "cf4e3a9a07d294b775e072948a4dae3e8e5380b453b5377d0cf39279aba12fc9", func := "loop.example/g00947/laws.FnExactMeanSeverity", spec := "fnExactMeanSeverity", unfollowed := true, recurses := true, apart := false }
def FnExactMeanSeveritySaid : Prop := fnExactMeanSeverityRow.holds Tryz.pinned (OpenSpec.ofChange fnExactMeanSeveritySpec)

/-- ITS FALSE NEIGHBOUR: 'it returns false'. Refute it at one input. -/
def fnExactMeanSeverityWrong : ChangeSpec := { name := "fnExactMeanSeverity", fn := fun _ => fun
  | [d1, d2] => { results := [.lit (.bool false)], args := [d1, d2] }
  | _ => none }
def FnExactMeanSeverityWrongFalsely : Prop := fnExactMeanSeverityRow.holds Tryz.pinned (OpenSpec.ofChange fnExactMeanSeverityWrong)

/-- 'laws.FnExactIsCalm': WHATEVER THE INPUT: true; the input reads as it did. -/
def fnExactIsCalmSpec : ChangeSpec := { name := "fnExactIsCalm", fn := fun _ => fun
  | [d1, d2, d3] => { results := [.lit (.bool true)], args := [d1, d2, d3] }
  | _ => none }
def fnExactIsCalmRow : OpenClaim := { program := "ytlfnadmbelngeaagreat", sum := "cf4e3a9a07d294b775e072948a4dae3e8e5380b453b5377d0cf39279aba12fc9", func := "loop.example/g00947/laws.FnExactIsCalm", spec := "fnExactIsCalm", unfollowed := true, recurses := true, apart := false }
def FnExactIsCalmSaid : Prop := fnExactIsCalmRow.holds Tryz.pinned (OpenSpec.ofChange fnExactIsCalmSpec)

/-- ITS FALSE NEIGHBOUR: 'it returns false'. Refute it at one input. -/
def fnExactIsCalmWrong : ChangeSpec := { name := "fnExactIsCalm", fn := fun _ => fun
  | [d1, d2, d3] => { results := [.lit (.bool false)], args := [d1, d2, d3] }
  | _ => none }
def FnExactIsCalmWrongFalsely : Prop := fnExactIsCalmRow.holds Tryz.pinned (OpenSpec.ofChange fnExactIsCalmWrong)

/-- 'laws.FnExactSafeKeys': WHATEVER THE INPUT: true; the input reads as it did. -/
def fnExactSafeKeysSpec : ChangeSpec := { name := "fnExactSafeKeys", fn := fun _ => fun
  | [d1, d2, d3] => { results := [.lit (.bool true)], args := [d1, d2, d3] }
  | _ => none }
def fnExactSafeKeysRow : OpenClaim := { program := "ytlfnadmbelngeaagreat", sum := "cf4e3a9a07d294b775e072948a4dae3e8e5380b453b5377d0cf39279aba12fc9", func := "loop.example/g00947/laws.FnExactSafeKeys", spec := "fnExactSafeKeys", unfollowed := true, recurses := true, apart := false }
def FnExactSafeKeysSaid : Prop := fnExactSafeKeysRow.holds Tryz.pinned (OpenSpec.ofChange fnExactSafeKeysSpec)

/-- ITS FALSE NEIGHBOUR: 'it returns false'. Refute it at one input. -/
def fnExactSafeKeysWrong : ChangeSpec := { name := "fnExactSafeKeys", fn := fun _ => fun
  | [d1, d2, d3] => { results := [.lit (.bool false)], args := [d1, d2, d3] }
  | _ => none }
def FnExactSafeKeysWrongFalsely : Prop := fnExactSafeKeysRow.holds Tryz.pinned (OpenSpec.ofChange fnExactSafeKeysWrong)

/-- 'laws.FnExactSystemGhosts': WHATEVER THE INPUT: true; the input reads as it did. -/
def fnExactSystemGhostsSpec : ChangeSpec := { name := "fnExactSystemGhosts", fn := fun _ => fun
  | [d1, d2, d3] => { results := [.lit (.bool true)], args := [d1, d2, d3] }
  | _ => none }
def fnExactSystemGhostsRow : OpenClaim := { program := "ytlfnadmbelngeaagreat", sum := "cf4e3a9a07d294b775e072948a4dae3e8e5380b453b5377d0cf39279aba12fc9", func := "loop.example/g00947/laws.FnExactSystemGhosts", spec := "fnExactSystemGhosts", unfollowed := true, recurses := true, apart := false }
def FnExactSystemGhostsSaid : Prop := fnExactSystemGhostsRow.holds Tryz.pinned (OpenSpec.ofChange fnExactSystemGhostsSpec)

/-- ITS FALSE NEIGHBOUR: 'it returns false'. Refute it at one input. -/
def fnExactSystemGhostsWrong : ChangeSpec := { name := "fnExactSystemGhosts", fn := fun _ => fun
  | [d1, d2, d3] => { results := [.lit (.bool false)], args := [d1, d2, d3] }
  | _ => none }
def FnExactSystemGhostsWrongFalsely : Prop := fnExactSystemGhostsRow.holds Tryz.pinned (OpenSpec.ofChange fnExactSystemGhostsWrong)

/- THE SECOND FORM. 'bulk': how many values and letters a reading holds, each counted each time it is reached (what is shared counts as often as it is met; a slice's spare places count too). A statement '..UptoSaid' is the law's where the arguments, and the package variables that the reading takes, are together of bulk at most 1048576: NARROWER than '..Said'. Prove '..Said' where nothing that the law and all that it calls make is longer than what came in: it says more and counts as full. Else prove '..UptoSaid'. A law counts once. -/
mutual
def uptoBulk {H : Type} : DataW H → Nat
  | .lit (.string bytes) => bytes.length + 1
  | .lit _ => 1
  | .nil => 1
  | .ptr d => uptoBulk d + 1
  | .slice elems spare => uptoBulkAll elems + uptoBulkAll spare + 1
  | .agg parts => uptoBulkAll parts + 1
  | .iface _ d => uptoBulk d + 1
  | .map entries => uptoBulkEntries entries + 1
  | .held _ => 1
def uptoBulkAll {H : Type} : List (DataW H) → Nat
  | [] => 0
  | d :: r => uptoBulk d + uptoBulkAll r
def uptoBulkEntries {H : Type} : List (Lit × DataW H) → Nat
  | [] => 0
  | x :: r => uptoBulkEntry x + uptoBulkEntries r
def uptoBulkEntry {H : Type} : Lit × DataW H → Nat
  | (.string bytes, d) => bytes.length + uptoBulk d + 1
  | (_, d) => uptoBulk d + 1
 end
def uptoSmall : (H : Type) → List (DataW H) → Bool := fun _ ds => decide (uptoBulkAll ds ≤ 1048576)
def OpenSpec.upto (s : _root_.Go.ChangeSpec) : _root_.Go.OpenSpec := { _root_.Go.OpenSpec.ofChange s with cond := some uptoSmall }

/-- 'laws.FnExactProfileOf', WHERE WHAT IT READS IS OF BULK AT MOST 1048576: true; the input reads as it did. -/
def fnExactProfileOfUptoRow : OpenClaim := { program := "ytlfnadmbelngeaagreat", sum := "cf4e3a9a07d294b775e072948a4dae3e8e5380b453b5377d0cf39279aba12fc9", func := "loop.example/g00947/laws.FnExactProfileOf", spec := "fnExactProfileOf", unfollowed := true, recurses := true, apart := false, narrowed := true }
def FnExactProfileOfUptoSaid : Prop := fnExactProfileOfUptoRow.holds Tryz.pinned (OpenSpec.upto fnExactProfileOfSpec)

/-- 'laws.FnExactMeanSeverity', WHERE WHAT IT READS IS OF BULK AT MOST 1048576: true; the input reads as it did. -/
def fnExactMeanSeverityUptoRow : OpenClaim := { program := "ytlfnadmbelngeaagreat", sum := "cf4e3a9a07d294b775e072948a4dae3e8e5380b453b5377d0cf39279aba12fc9", func := "loop.example/g00947/laws.FnExactMeanSeverity", spec := "fnExactMeanSeverity", unfollowed := true, recurses := true, apart := false, narrowed := true }
def FnExactMeanSeverityUptoSaid : Prop := fnExactMeanSeverityUptoRow.holds Tryz.pinned (OpenSpec.upto fnExactMeanSeveritySpec)

/-- 'laws.FnExactIsCalm', WHERE WHAT IT READS IS OF BULK AT MOST 1048576: true; the input reads as it did. -/
def fnExactIsCalmUptoRow : OpenClaim := { program := "ytlfnadmbelngeaagreat", sum := "cf4e3a9a07d294b775e072948a4dae3e8e5380b453b5377d0cf39279aba12fc9", func := "loop.example/g00947/laws.FnExactIsCalm", spec := "fnExactIsCalm", unfollowed := true, recurses := true, apart := false, narrowed := true }
def FnExactIsCalmUptoSaid : Prop := fnExactIsCalmUptoRow.holds Tryz.pinned (OpenSpec.upto fnExactIsCalmSpec)

/-- 'laws.FnExactSafeKeys', WHERE WHAT IT READS IS OF BULK AT MOST 1048576: true; the input reads as it did. -/
def fnExactSafeKeysUptoRow : OpenClaim := { program := "ytlfnadmbelngeaagreat", sum := "cf4e3a9a07d294b775e072948a4dae3e8e5380b453b5377d0cf39279aba12fc9", func := "loop.example/g00947/laws.FnExactSafeKeys", spec := "fnExactSafeKeys", unfollowed := true, recurses := true, apart := false, narrowed := true }
def FnExactSafeKeysUptoSaid : Prop := fnExactSafeKeysUptoRow.holds Tryz.pinned (OpenSpec.upto fnExactSafeKeysSpec)

/-- 'laws.FnExactSystemGhosts', WHERE WHAT IT READS IS OF BULK AT MOST 1048576: true; the input reads as it did. -/
def fnExactSystemGhostsUptoRow : OpenClaim := { program := "ytlfnadmbelngeaagreat", sum := "cf4e3a9a07d294b775e072948a4dae3e8e5380b453b5377d0cf39279aba12fc9", func := "loop.example/g00947/laws.FnExactSystemGhosts", spec := "fnExactSystemGhosts", unfollowed := true, recurses := true, apart := false, narrowed := true }
def FnExactSystemGhostsUptoSaid : Prop := fnExactSystemGhostsUptoRow.holds Tryz.pinned (OpenSpec.upto fnExactSystemGhostsSpec)

end Rows
end Go.Proofs.YtlfnadmbelngeaaGreat
