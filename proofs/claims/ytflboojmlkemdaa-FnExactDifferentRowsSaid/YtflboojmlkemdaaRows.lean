/-
  No cell of these rows narrows 'for every input' (looked for: loops, veiled, ifaces, maps, wideKeys, modest, calm, conditions, laid).
  DERIVED. THE GIVEN ROWS OF THIS SEAT. 4 by the template 'for every input the law returns true; each argument reads behind the call as it read before'; 0 by the template 'total and deterministic' (their statements: YtflboojmlkemdaaTotals.lean).
  GIVEN WITH THE SEED: the statements are not yours to turn. If you find one false, say at which input.
  Laid BY PROGRAM, IN A SANDBOX (cutbox-rows.mjs): the forced cells as the released guide's own fill.sh prints them over the translation 9817a88d63e4083e… (all of the seat's roots in one cut). By AI agents, Wed Nov 11 2026. No macro, syntax, notation, axiom, sorry.
-/
import Derived.Test.YtflboojmlkemdaaChecked
import GoSem.Claim
import GoSem.ClaimJoined
import GoSem.ClaimMapViews
import Derived.JoinedTies
import Derived.KernelRfl
namespace Go.Proofs.Ytflboojmlkemdaa
/- THE CELL 'sum', in the pinned program and in every row, IS THE sha256 OF THE DUMP (.gsa) THAT YtflboojmlkemdaaProg.lean LOADS. Nothing in Lean hashes anything: it is a label: what it is worth is what the hold of that sum in a sandbox is worth. -/
noncomputable def Try.pinned : Pinned := { name := "ytflboojmlkemdaa", sum := "9817a88d63e4083e4c2810701eeb7e93389371c5b85d238f3644d71972ff42a1", checked := Try.checked }
namespace Rows
def none {H : Type} : Left H := { results := [], args := [] }

/-- 'laws.FnExactMostOpeners': WHATEVER THE INPUT: true; the input reads as it did. -/
def fnExactMostOpenersSpec : ChangeSpec := { name := "fnExactMostOpeners", fn := fun _ => fun
  | [d1, d2] => { results := [.lit (.bool true)], args := [d1, d2] }
  | _ => none }
def fnExactMostOpenersRow : OpenClaim := { program := "ytflboojmlkemdaa", sum := "9817a88d63e4083e4c2810701eeb7e93389371c5b85d238f3644d71972ff42a1", func := "loop.example/g00947/laws.FnExactMostOpeners", spec := "fnExactMostOpeners", recurses := true, apart := false }
def FnExactMostOpenersSaid : Prop := fnExactMostOpenersRow.holds Try.pinned (OpenSpec.ofChange fnExactMostOpenersSpec)

/-- ITS FALSE NEIGHBOUR: 'it returns false'. Refute it at one input. -/
def fnExactMostOpenersWrong : ChangeSpec := { name := "fnExactMostOpeners", fn := fun _ => fun
  | [d1, d2] => { results := [.lit (.bool false)], args := [d1, d2] }
  | _ => none }
def FnExactMostOpenersWrongFalsely : Prop := fnExactMostOpenersRow.holds Try.pinned (OpenSpec.ofChange fnExactMostOpenersWrong)

/-- 'laws.FnExactCountOpen': WHATEVER THE INPUT: true; the input reads as it did. -/
def fnExactCountOpenSpec : ChangeSpec := { name := "fnExactCountOpen", fn := fun _ => fun
  | [d] => { results := [.lit (.bool true)], args := [d] }
  | _ => none }
def fnExactCountOpenRow : OpenClaim := { program := "ytflboojmlkemdaa", sum := "9817a88d63e4083e4c2810701eeb7e93389371c5b85d238f3644d71972ff42a1", func := "loop.example/g00947/laws.FnExactCountOpen", spec := "fnExactCountOpen", apart := false }
def FnExactCountOpenSaid : Prop := fnExactCountOpenRow.holds Try.pinned (OpenSpec.ofChange fnExactCountOpenSpec)

/-- ITS FALSE NEIGHBOUR: 'it returns false'. Refute it at one input. -/
def fnExactCountOpenWrong : ChangeSpec := { name := "fnExactCountOpen", fn := fun _ => fun
  | [d] => { results := [.lit (.bool false)], args := [d] }
  | _ => none }
def FnExactCountOpenWrongFalsely : Prop := fnExactCountOpenRow.holds Try.pinned (OpenSpec.ofChange fnExactCountOpenWrong)

/-- 'laws.FnExactWafersFor': WHATEVER THE INPUT: true; the input reads as it did. -/
def fnExactWafersForSpec : ChangeSpec := { name := "fnExactWafersFor", fn := fun _ => fun
  | [d1, d2] => { results := [.lit (.bool true)], args := [d1, d2] }
  | _ => none }
def fnExactWafersForRow : OpenClaim := { program := "ytflboojmlkemdaa", sum := "9817a88d63e4083e4c2810701eeb7e93389371c5b85d238f3644d71972ff42a1", func := "loop.example/g00947/laws.FnExactWafersFor", spec := "fnExactWafersFor", recurses := true, apart := false }
def FnExactWafersForSaid : Prop := fnExactWafersForRow.holds Try.pinned (OpenSpec.ofChange fnExactWafersForSpec)

/-- ITS FALSE NEIGHBOUR: 'it returns false'. Refute it at one input. -/
def fnExactWafersForWrong : ChangeSpec := { name := "fnExactWafersFor", fn := fun _ => fun
  | [d1, d2] => { results := [.lit (.bool false)], args := [d1, d2] }
  | _ => none }
def FnExactWafersForWrongFalsely : Prop := fnExactWafersForRow.holds Try.pinned (OpenSpec.ofChange fnExactWafersForWrong)

/-- 'laws.FnExactDifferentRows': WHATEVER THE INPUT: true; the input reads as it did. -/
def fnExactDifferentRowsSpec : ChangeSpec := { name := "fnExactDifferentRows", fn := fun _ => fun
  | [d] => { results := [.lit (.bool true)], args := [d] }
  | _ => none }
def fnExactDifferentRowsRow : OpenClaim := { program := "ytflboojmlkemdaa", sum := "9817a88d63e4083e4c2810701eeb7e93389371c5b85d238f3644d71972ff42a1", func := "loop.example/g00947/laws.FnExactDifferentRows", spec := "fnExactDifferentRows", unfollowed := true, recurses := true, apart := false }
def FnExactDifferentRowsSaid : Prop := fnExactDifferentRowsRow.holds Try.pinned (OpenSpec.ofChange fnExactDifferentRowsSpec)

/-- ITS FALSE NEIGHBOUR: 'it returns false'. Refute it at one input. -/
def fnExactDifferentRowsWrong : ChangeSpec := { name := "fnExactDifferentRows", fn := fun _ => fun
  | [d] => { results := [.lit (.bool false)], args := [d] }
  | _ => none }
def FnExactDifferentRowsWrongFalsely : Prop := fnExactDifferentRowsRow.holds Try.pinned (OpenSpec.ofChange fnExactDifferentRowsWrong)

/- THE SECOND FORM. 'bulk': how many values and letters a reading holds, each counted each time it is reached (what is shared counts as often as it is met; a slice's spare places count too). A statement '..UptoSaid' is the law's where the arguments, and the package variables that the reading takes, are together of bulk at most 1048576: NARROWER than '..Said'. Prove '..Said' where nothing that the law and all that it calls make is longer than what came in: it says more and counts as full. Else prove '..UptoSaid'. A law counts once. -/
mutual
def uptoBulk {H : Type} : DataW H → Nat
  | .lit (.string bytes) => bytes.length + 1
  | .lit _ => 1
  | .nil => 1
  | .ptr d => uptoBulk d + 1
  | .slice elems spare => uptoBulkAll elems + uptoBulkAll spare + 1
  | .agg parts => uptoBulkAll parts + 1
  | .iface _ d => uptoBulk d + 1
  | .map entries => uptoBulkEntries entries + 1
  | .held _ => 1
def uptoBulkAll {H : Type} : List (DataW H) → Nat
  | [] => 0
  | d :: r => uptoBulk d + uptoBulkAll r
def uptoBulkEntries {H : Type} : List (Lit × DataW H) → Nat
  | [] => 0
  | x :: r => uptoBulkEntry x + uptoBulkEntries r
def uptoBulkEntry {H : Type} : Lit × DataW H → Nat
  | (.string bytes, d) => bytes.length + uptoBulk d + 1
  | (_, d) => uptoBulk d + 1
 end
def uptoSmall : (H : Type) → List (DataW H) → Bool := fun _ ds => decide (uptoBulkAll ds ≤ 1048576)
def OpenSpec.upto (s : _root_.Go.ChangeSpec) : _root_.Go.OpenSpec := { _root_.Go.OpenSpec.ofChange s with cond := some uptoSmall }

/-- 'laws.FnExactMostOpeners', WHERE WHAT IT READS IS OF BULK AT MOST 1048576: true; the input reads as it did. -/
def fnExactMostOpenersUptoRow : OpenClaim := { program := "ytflboojmlkemdaa", sum := "9817a88d63e4083e4c2810701eeb7e93389371c5b85d238f3644d71972ff42a1", func := "loop.example/g00947/laws.FnExactMostOpeners", spec := "fnExactMostOpeners", recurses := true, apart := false, narrowed := true }
def FnExactMostOpenersUptoSaid : Prop := fnExactMostOpenersUptoRow.holds Try.pinned (OpenSpec.upto fnExactMostOpenersSpec)

/-- 'laws.FnExactCountOpen', WHERE WHAT IT READS IS OF BULK AT MOST 1048576: true; the input reads as it did. -/
def fnExactCountOpenUptoRow : OpenClaim := { program := "ytflboojmlkemdaa", sum := "9817a88d63e4083e4c2810701eeb7e93389371c5b85d238f3644d71972ff42a1", func := "loop.example/g00947/laws.FnExactCountOpen", spec := "fnExactCountOpen", apart := false, narrowed := true }
def FnExactCountOpenUptoSaid : Prop := fnExactCountOpenUptoRow.holds Try.pinned (OpenSpec.upto fnExactCountOpenSpec)

/-- 'laws.FnExactWafersFor', WHERE WHAT IT READS IS OF BULK AT MOST 1048576: true; the input reads as it did. -/
def fnExactWafersForUptoRow : OpenClaim := { program := "ytflboojmlkemdaa", sum := "9817a88d63e4083e4c2810701eeb7e93389371c5b85d238f3644d71972ff42a1", func := "loop.example/g00947/laws.FnExactWafersFor", spec := "fnExactWafersFor", recurses := true, apart := false, narrowed := true }
def FnExactWafersForUptoSaid : Prop := fnExactWafersForUptoRow.holds Try.pinned (OpenSpec.upto fnExactWafersForSpec)

/-- 'laws.FnExactDifferentRows', WHERE WHAT IT READS IS OF BULK AT MOST 1048576: true; the input reads as it did. -/
def fnExactDifferentRowsUptoRow : OpenClaim := { program := "ytflboojmlkemdaa", sum := "9817a88d63e4083e4c2810701eeb7e93389371c5b85d238f3644d71972ff42a1", func := "loop.example/g00947/laws.FnExactDifferentRows", spec := "fnExactDifferentRows", unfollowed := true, recurses := true, apart := false, narrowed := true }
def FnExactDifferentRowsUptoSaid : Prop := fnExactDifferentRowsUptoRow.holds Try.pinned (OpenSpec.upto fnExactDifferentRowsSpec)

end Rows
end Go.Proofs.Ytflboojmlkemdaa
