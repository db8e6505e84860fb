/-
  No cell of these rows narrows 'for every input' (looked for: loops, veiled, ifaces, maps, wideKeys, modest, calm, conditions, laid).
  DERIVED. THE GIVEN ROWS OF THIS SEAT. 9 by the template 'for every input the law returns true; each argument reads behind the call as it read before'; 0 by the template 'total and deterministic' (their statements: YtikdbjaimcciiaaGreatTotals.lean).
  GIVEN WITH THE SEED: the statements are not yours to turn. If you find one false, say at which input.
  Laid BY PROGRAM, IN A SANDBOX (cutbox-rows.mjs): the forced cells as the released guide's own fill.sh prints them over the translation 67b2b31fdd257962… (all of the seat's roots in one cut). By AI agents, Wed Nov 11 2026. No macro, syntax, notation, axiom, sorry.
-/
import Derived.Test.YtikdbjaimcciiaaGreatChecked
import GoSem.Claim
import GoSem.ClaimJoined
import GoSem.ClaimMapViews
import Derived.JoinedTies
import Derived.KernelRfl
namespace Go.Proofs.YtikdbjaimcciiaaGreat
/- THE CELL 'sum', in the pinned program and in every row, IS THE sha256 OF THE DUMP (.gsa) THAT YtikdbjaimcciiaaGreatProg.lean LOADS. Nothing in Lean hashes anything: it is a label: what it is worth is what the hold of that sum in a sandbox is worth. -/
noncomputable def Tryz.pinned : Pinned := { name := "ytikdbjaimcciiaagreat", sum := "67b2b31fdd2579620d4481100890924589e79c6a978b1fce0e1222bed9f874aa", checked := Tryz.checked }
namespace Rows
def none {H : Type} : Left H := { results := [], args := [] }

/-- 'laws.FnTop': WHATEVER THE INPUT: true; the input reads as it did. -/
def fnTopSpec : ChangeSpec := { name := "fnTop", fn := fun _ => fun
  | [d] => { results := [.lit (.bool true)], args := [d] }
  | _ => none }
def fnTopRow : OpenClaim := { program := "ytikdbjaimcciiaagreat", sum := "67b2b31fdd2579620d4481100890924589e79c6a978b1fce0e1222bed9f874aa", func := "loop.example/g00947/laws.FnTop", spec := "fnTop", unfollowed := true, recurses := true, apart := false }
def FnTopSaid : Prop := fnTopRow.holds Tryz.pinned (OpenSpec.ofChange fnTopSpec)

/-- ITS FALSE NEIGHBOUR: 'it returns false'. Refute it at one input. -/
def fnTopWrong : ChangeSpec := { name := "fnTop", fn := fun _ => fun
  | [d] => { results := [.lit (.bool false)], args := [d] }
  | _ => none }
def FnTopWrongFalsely : Prop := fnTopRow.holds Tryz.pinned (OpenSpec.ofChange fnTopWrong)

/-- 'laws.FnExactWorstGhosts': WHATEVER THE INPUT: true; the input reads as it did. -/
def fnExactWorstGhostsSpec : ChangeSpec := { name := "fnExactWorstGhosts", fn := fun _ => fun
  | [d1, d2, d3] => { results := [.lit (.bool true)], args := [d1, d2, d3] }
  | _ => none }
def fnExactWorstGhostsRow : OpenClaim := { program := "ytikdbjaimcciiaagreat", sum := "67b2b31fdd2579620d4481100890924589e79c6a978b1fce0e1222bed9f874aa", func := "loop.example/g00947/laws.FnExactWorstGhosts", spec := "fnExactWorstGhosts", unfollowed := true, recurses := true, apart := false }
def FnExactWorstGhostsSaid : Prop := fnExactWorstGhostsRow.holds Tryz.pinned (OpenSpec.ofChange fnExactWorstGhostsSpec)

/-- ITS FALSE NEIGHBOUR: 'it returns false'. Refute it at one input. -/
def fnExactWorstGhostsWrong : ChangeSpec := { name := "fnExactWorstGhosts", fn := fun _ => fun
  | [d1, d2, d3] => { results := [.lit (.bool false)], args := [d1, d2, d3] }
  | _ => none }
def FnExactWorstGhostsWrongFalsely : Prop := fnExactWorstGhostsRow.holds Tryz.pinned (OpenSpec.ofChange fnExactWorstGhostsWrong)

/-- 'laws.FnExactDesignsOf': WHATEVER THE INPUT: true; the input reads as it did. -/
def fnExactDesignsOfSpec : ChangeSpec := { name := "fnExactDesignsOf", fn := fun _ => fun
  | [d1, d2, d3] => { results := [.lit (.bool true)], args := [d1, d2, d3] }
  | _ => none }
def fnExactDesignsOfRow : OpenClaim := { program := "ytikdbjaimcciiaagreat", sum := "67b2b31fdd2579620d4481100890924589e79c6a978b1fce0e1222bed9f874aa", func := "loop.example/g00947/laws.FnExactDesignsOf", spec := "fnExactDesignsOf", unfollowed := true, recurses := true, apart := false }
def FnExactDesignsOfSaid : Prop := fnExactDesignsOfRow.holds Tryz.pinned (OpenSpec.ofChange fnExactDesignsOfSpec)

/-- ITS FALSE NEIGHBOUR: 'it returns false'. Refute it at one input. -/
def fnExactDesignsOfWrong : ChangeSpec := { name := "fnExactDesignsOf", fn := fun _ => fun
  | [d1, d2, d3] => { results := [.lit (.bool false)], args := [d1, d2, d3] }
  | _ => none }
def FnExactDesignsOfWrongFalsely : Prop := fnExactDesignsOfRow.holds Tryz.pinned (OpenSpec.ofChange fnExactDesignsOfWrong)

/-- 'laws.FnExactNextDesign': WHATEVER THE INPUT: true; the input reads as it did. -/
def fnExactNextDesignSpec : ChangeSpec := { name := "fnExactNextDesign", fn := fun _ => fun
  | [d1, d2, d3] => { results := [.lit (.bool true)], args := [d1, d2, d3] }
  | _ => none }
def fnExactNextDesignRow : OpenClaim := { program := "ytikdbjaimcciiaagreat", sum := "67b2b31fdd2579620d4481100890924589e79c6a978b1fce0e1222bed9f874aa", func := "loop.example/g00947/laws.FnExactNextDesign", spec := "fnExactNextDesign", unfollowed := true, recurses := true, apart := false }
def FnExactNextDesignSaid : Prop := fnExactNextDesignRow.holds Tryz.pinned (OpenSpec.ofChange fnExactNextDesignSpec)

/-- ITS FALSE NEIGHBOUR: 'it returns false'. Refute it at one input. -/
def fnExactNextDesignWrong : ChangeSpec := { name := "fnExactNextDesign", fn := fun _ => fun
  | [d1, d2, d3] => { results := [.lit (.bool false)], args := [d1, d2, d3] }
  | _ => none }
def FnExactNextDesignWrongFalsely : Prop := fnExactNextDesignRow.holds Tryz.pinned (OpenSpec.ofChange fnExactNextDesignWrong)

/-- 'laws.FnExactFindFrom': WHATEVER THE INPUT: true; the input reads as it did. -/
def fnExactFindFromSpec : ChangeSpec := { name := "fnExactFindFrom", fn := fun _ => fun
  | [d1, d2, d3] => { results := [.lit (.bool true)], args := [d1, d2, d3] }
  | _ => none }
def fnExactFindFromRow : OpenClaim := { program := "ytikdbjaimcciiaagreat", sum := "67b2b31fdd2579620d4481100890924589e79c6a978b1fce0e1222bed9f874aa", func := "loop.example/g00947/laws.FnExactFindFrom", spec := "fnExactFindFrom", unfollowed := true, recurses := true, apart := false }
def FnExactFindFromSaid : Prop := fnExactFindFromRow.holds Tryz.pinned (OpenSpec.ofChange fnExactFindFromSpec)

/-- ITS FALSE NEIGHBOUR: 'it returns false'. Refute it at one input. -/
def fnExactFindFromWrong : ChangeSpec := { name := "fnExactFindFrom", fn := fun _ => fun
  | [d1, d2, d3] => { results := [.lit (.bool false)], args := [d1, d2, d3] }
  | _ => none }
def FnExactFindFromWrongFalsely : Prop := fnExactFindFromRow.holds Tryz.pinned (OpenSpec.ofChange fnExactFindFromWrong)

/-- 'laws.FnShifted': WHATEVER THE INPUT: true; the input reads as it did. -/
def fnShiftedSpec : ChangeSpec := { name := "fnShifted", fn := fun _ => fun
  | [d] => { results := [.lit (.bool true)], args := [d] }
  | _ => none }
def fnShiftedRow : OpenClaim := { program := "ytikdbjaimcciiaagreat", sum := "67b2b31fdd2579620d4481100890924589e79c6a978b1fce0e1222bed9f874aa", func := "loop.example/g00947/laws.FnShifted", spec := "fnShifted", unfollowed := true, recurses := true, apart := false }
def FnShiftedSaid : Prop := fnShiftedRow.holds Tryz.pinned (OpenSpec.ofChange fnShiftedSpec)

/-- ITS FALSE NEIGHBOUR: 'it returns false'. Refute it at one input. -/
def fnShiftedWrong : ChangeSpec := { name := "fnShifted", fn := fun _ => fun
  | [d] => { results := [.lit (.bool false)], args := [d] }
  | _ => none }
def FnShiftedWrongFalsely : Prop := fnShiftedRow.holds Tryz.pinned (OpenSpec.ofChange fnShiftedWrong)

/-- 'laws.FnBlamed': WHATEVER THE INPUT: true; the input reads as it did. -/
def fnBlamedSpec : ChangeSpec := { name := "fnBlamed", fn := fun _ => fun
  | [d] => { results := [.lit (.bool true)], args := [d] }
  | _ => none }
def fnBlamedRow : OpenClaim := { program := "ytikdbjaimcciiaagreat", sum := "67b2b31fdd2579620d4481100890924589e79c6a978b1fce0e1222bed9f874aa", func := "loop.example/g00947/laws.FnBlamed", spec := "fnBlamed", unfollowed := true, recurses := true, apart := false }
def FnBlamedSaid : Prop := fnBlamedRow.holds Tryz.pinned (OpenSpec.ofChange fnBlamedSpec)

/-- ITS FALSE NEIGHBOUR: 'it returns false'. Refute it at one input. -/
def fnBlamedWrong : ChangeSpec := { name := "fnBlamed", fn := fun _ => fun
  | [d] => { results := [.lit (.bool false)], args := [d] }
  | _ => none }
def FnBlamedWrongFalsely : Prop := fnBlamedRow.holds Tryz.pinned (OpenSpec.ofChange fnBlamedWrong)

/-- 'laws.FnReasons': WHATEVER THE INPUT: true; the input reads as it did. -/
def fnReasonsSpec : ChangeSpec := { name := "fnReasons", fn := fun _ => fun
  | [d] => { results := [.lit (.bool true)], args := [d] }
  | _ => none }
def fnReasonsRow : OpenClaim := { program := "ytikdbjaimcciiaagreat", sum := "67b2b31fdd2579620d4481100890924589e79c6a978b1fce0e1222bed9f874aa", func := "loop.example/g00947/laws.FnReasons", spec := "fnReasons", unfollowed := true, recurses := true, apart := false }
def FnReasonsSaid : Prop := fnReasonsRow.holds Tryz.pinned (OpenSpec.ofChange fnReasonsSpec)

/-- ITS FALSE NEIGHBOUR: 'it returns false'. Refute it at one input. -/
def fnReasonsWrong : ChangeSpec := { name := "fnReasons", fn := fun _ => fun
  | [d] => { results := [.lit (.bool false)], args := [d] }
  | _ => none }
def FnReasonsWrongFalsely : Prop := fnReasonsRow.holds Tryz.pinned (OpenSpec.ofChange fnReasonsWrong)

/-- 'laws.FnOutsiders': WHATEVER THE INPUT: true; the input reads as it did. -/
def fnOutsidersSpec : ChangeSpec := { name := "fnOutsiders", fn := fun _ => fun
  | [d] => { results := [.lit (.bool true)], args := [d] }
  | _ => none }
def fnOutsidersRow : OpenClaim := { program := "ytikdbjaimcciiaagreat", sum := "67b2b31fdd2579620d4481100890924589e79c6a978b1fce0e1222bed9f874aa", func := "loop.example/g00947/laws.FnOutsiders", spec := "fnOutsiders", unfollowed := true, recurses := true, apart := false }
def FnOutsidersSaid : Prop := fnOutsidersRow.holds Tryz.pinned (OpenSpec.ofChange fnOutsidersSpec)

/-- ITS FALSE NEIGHBOUR: 'it returns false'. Refute it at one input. -/
def fnOutsidersWrong : ChangeSpec := { name := "fnOutsiders", fn := fun _ => fun
  | [d] => { results := [.lit (.bool false)], args := [d] }
  | _ => none }
def FnOutsidersWrongFalsely : Prop := fnOutsidersRow.holds Tryz.pinned (OpenSpec.ofChange fnOutsidersWrong)

/- THE SECOND FORM. 'bulk': how many values and letters a reading holds, each counted each time it is reached (what is shared counts as often as it is met; a slice's spare places count too). A statement '..UptoSaid' is the law's where the arguments, and the package variables that the reading takes, are together of bulk at most 1048576: NARROWER than '..Said'. Prove '..Said' where nothing that the law and all that it calls make is longer than what came in: it says more and counts as full. Else prove '..UptoSaid'. A law counts once. -/
mutual
def uptoBulk {H : Type} : DataW H → Nat
  | .lit (.string bytes) => bytes.length + 1
  | .lit _ => 1
  | .nil => 1
  | .ptr d => uptoBulk d + 1
  | .slice elems spare => uptoBulkAll elems + uptoBulkAll spare + 1
  | .agg parts => uptoBulkAll parts + 1
  | .iface _ d => uptoBulk d + 1
  | .map entries => uptoBulkEntries entries + 1
  | .held _ => 1
def uptoBulkAll {H : Type} : List (DataW H) → Nat
  | [] => 0
  | d :: r => uptoBulk d + uptoBulkAll r
def uptoBulkEntries {H : Type} : List (Lit × DataW H) → Nat
  | [] => 0
  | x :: r => uptoBulkEntry x + uptoBulkEntries r
def uptoBulkEntry {H : Type} : Lit × DataW H → Nat
  | (.string bytes, d) => bytes.length + uptoBulk d + 1
  | (_, d) => uptoBulk d + 1
 end
def uptoSmall : (H : Type) → List (DataW H) → Bool := fun _ ds => decide (uptoBulkAll ds ≤ 1048576)
def OpenSpec.upto (s : _root_.Go.ChangeSpec) : _root_.Go.OpenSpec := { _root_.Go.OpenSpec.ofChange s with cond := some uptoSmall }

/-- 'laws.FnTop', WHERE WHAT IT READS IS OF BULK AT MOST 1048576: true; the input reads as it did. -/
def fnTopUptoRow : OpenClaim := { program := "ytikdbjaimcciiaagreat", sum := "67b2b31fdd2579620d4481100890924589e79c6a978b1fce0e1222bed9f874aa", func := "loop.example/g00947/laws.FnTop", spec := "fnTop", unfollowed := true, recurses := true, apart := false, narrowed := true }
def FnTopUptoSaid : Prop := fnTopUptoRow.holds Tryz.pinned (OpenSpec.upto fnTopSpec)

/-- 'laws.FnExactWorstGhosts', WHERE WHAT IT READS IS OF BULK AT MOST 1048576: true; the input reads as it did. -/
def fnExactWorstGhostsUptoRow : OpenClaim := { program := "ytikdbjaimcciiaagreat", sum := "67b2b31fdd2579620d4481100890924589e79c6a978b1fce0e1222bed9f874aa", func := "loop.example/g00947/laws.FnExactWorstGhosts", spec := "fnExactWorstGhosts", unfollowed := true, recurses := true, apart := false, narrowed := true }
def FnExactWorstGhostsUptoSaid : Prop := fnExactWorstGhostsUptoRow.holds Tryz.pinned (OpenSpec.upto fnExactWorstGhostsSpec)

/-- 'laws.FnExactDesignsOf', WHERE WHAT IT READS IS OF BULK AT MOST 1048576: true; the input reads as it did. -/
def fnExactDesignsOfUptoRow : OpenClaim := { program := "ytikdbjaimcciiaagreat", sum := "67b2b31fdd2579620d4481100890924589e79c6a978b1fce0e1222bed9f874aa", func := "loop.example/g00947/laws.FnExactDesignsOf", spec := "fnExactDesignsOf", unfollowed := true, recurses := true, apart := false, narrowed := true }
def FnExactDesignsOfUptoSaid : Prop := fnExactDesignsOfUptoRow.holds Tryz.pinned (OpenSpec.upto fnExactDesignsOfSpec)

/-- 'laws.FnExactNextDesign', WHERE WHAT IT READS IS OF BULK AT MOST 1048576: true; the input reads as it did. -/
def fnExactNextDesignUptoRow : OpenClaim := { program := "ytikdbjaimcciiaagreat", sum := "67b2b31fdd2579620d4481100890924589e79c6a978b1fce0e1222bed9f874aa", func := "loop.example/g00947/laws.FnExactNextDesign", spec := "fnExactNextDesign", unfollowed := true, recurses := true, apart := false, narrowed := true }
def FnExactNextDesignUptoSaid : Prop := fnExactNextDesignUptoRow.holds Tryz.pinned (OpenSpec.upto fnExactNextDesignSpec)

/-- 'laws.FnExactFindFrom', WHERE WHAT IT READS IS OF BULK AT MOST 1048576: true; the input reads as it did. -/
def fnExactFindFromUptoRow : OpenClaim := { program := "ytikdbjaimcciiaagreat", sum := "67b2b31fdd2579620d4481100890924589e79c6a978b1fce0e1222bed9f874aa", func := "loop.example/g00947/laws.FnExactFindFrom", spec := "fnExactFindFrom", unfollowed := true, recurses := true, apart := false, narrowed := true }
def FnExactFindFromUptoSaid : Prop := fnExactFindFromUptoRow.holds Tryz.pinned (OpenSpec.upto fnExactFindFromSpec)

/-- 'laws.FnShifted', WHERE WHAT IT READS IS OF BULK AT MOST 1048576: true; the input reads as it did. -/
def fnShiftedUptoRow : OpenClaim := { program := "ytikdbjaimcciiaagreat", sum := "67b2b31fdd2579620d4481100890924589e79c6a978b1fce0e1222bed9f874aa", func := "loop.example/g00947/laws.FnShifted", spec := "fnShifted", unfollowed := true, recurses := true, apart := false, narrowed := true }
def FnShiftedUptoSaid : Prop := fnShiftedUptoRow.holds Tryz.pinned (OpenSpec.upto fnShiftedSpec)

/-- 'laws.FnBlamed', WHERE WHAT IT READS IS OF BULK AT MOST 1048576: true; the input reads as it did. -/
def fnBlamedUptoRow : OpenClaim := { program := "ytikdbjaimcciiaagreat", sum := "67b2b31fdd2579620d4481100890924589e79c6a978b1fce0e1222bed9f874aa", func := "loop.example/g00947/laws.FnBlamed", spec := "fnBlamed", unfollowed := true, recurses := true, apart := false, narrowed := true }
def FnBlamedUptoSaid : Prop := fnBlamedUptoRow.holds Tryz.pinned (OpenSpec.upto fnBlamedSpec)

/-- 'laws.FnReasons', WHERE WHAT IT READS IS OF BULK AT MOST 1048576: true; the input reads as it did. -/
def fnReasonsUptoRow : OpenClaim := { program := "ytikdbjaimcciiaagreat", sum := "67b2b31fdd2579620d4481100890924589e79c6a978b1fce0e1222bed9f874aa", func := "loop.example/g00947/laws.FnReasons", spec := "fnReasons", unfollowed := true, recurses := true, apart := false, narrowed := true }
def FnReasonsUptoSaid : Prop := fnReasonsUptoRow.holds Tryz.pinned (OpenSpec.upto fnReasonsSpec)

/-- 'laws.FnOutsiders', WHERE WHAT IT READS IS OF BULK AT MOST 1048576: true; the input reads as it did. -/
def fnOutsidersUptoRow : OpenClaim := { program := "ytikdbjaimcciiaagreat", sum := "67b2b31fdd2579620d4481100890924589e79c6a978b1fce0e1222bed9f874aa", func := "loop.example/g00947/laws.FnOutsiders", spec := "fnOutsiders", unfollowed := true, recurses := true, apart := false, narrowed := true }
def FnOutsidersUptoSaid : Prop := fnOutsidersUptoRow.holds Tryz.pinned (OpenSpec.upto fnOutsidersSpec)

end Rows
end Go.Proofs.YtikdbjaimcciiaaGreat
