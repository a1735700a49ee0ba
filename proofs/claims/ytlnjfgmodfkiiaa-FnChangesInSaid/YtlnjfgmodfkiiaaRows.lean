/-
  No cell of these rows narrows 'for every input' (looked for: loops, veiled, ifaces, maps, wideKeys, modest, calm, conditions, laid).
  DERIVED. THE GIVEN ROWS OF THIS SEAT. 5 by the template 'for every input the law returns true; each argument reads behind the call as it read before'; 0 by the template 'total and deterministic' (their statements: YtlnjfgmodfkiiaaTotals.lean).
  GIVEN WITH THE SEED: the statements are not yours to turn. If you find one false, say at which input.
  Laid BY PROGRAM, IN A SANDBOX (cutbox-rows.mjs): the forced cells as the released guide's own fill.sh prints them over the translation a0d5acfb13d5723b… (all of the seat's roots in one cut). By AI agents, Wed Nov 11 2026. No macro, syntax, notation, axiom, sorry.
-/
import Derived.Test.YtlnjfgmodfkiiaaChecked
import GoSem.Claim
import GoSem.ClaimJoined
import GoSem.ClaimMapViews
import Derived.JoinedTies
import Derived.KernelRfl
namespace Go.Proofs.Ytlnjfgmodfkiiaa
/- THE CELL 'sum', in the pinned program and in every row, IS THE sha256 OF THE DUMP (.gsa) THAT YtlnjfgmodfkiiaaProg.lean LOADS. Nothing in Lean hashes anything: it is a label: what it is worth is what the hold of that sum in a sandbox is worth. -/
noncomputable def Try.pinned : Pinned := { name := "ytlnjfgmodfkiiaa", sum := "a0d5acfb13d5723bd293a6c2dda9adb7c4418b6ef0fbebed3d5e70148ba4f3cd", checked := Try.checked }
namespace Rows
def none {H : Type} : Left H := { results := [], args := [] }

/-- 'laws.FnValidRests': WHATEVER THE INPUT: true; the input reads as it did. -/
def fnValidRestsSpec : ChangeSpec := { name := "fnValidRests", fn := fun _ => fun
  | [d] => { results := [.lit (.bool true)], args := [d] }
  | _ => none }
def fnValidRestsRow : OpenClaim := { program := "ytlnjfgmodfkiiaa", sum := "a0d5acfb13d5723bd293a6c2dda9adb7c4418b6ef0fbebed3d5e70148ba4f3cd", func := "loop.example/wholewaves/laws.FnValidRests", spec := "fnValidRests", apart := false }
def FnValidRestsSaid : Prop := fnValidRestsRow.holds Try.pinned (OpenSpec.ofChange fnValidRestsSpec)

/-- ITS FALSE NEIGHBOUR: 'it returns false'. Refute it at one input. -/
def fnValidRestsWrong : ChangeSpec := { name := "fnValidRests", fn := fun _ => fun
  | [d] => { results := [.lit (.bool false)], args := [d] }
  | _ => none }
def FnValidRestsWrongFalsely : Prop := fnValidRestsRow.holds Try.pinned (OpenSpec.ofChange fnValidRestsWrong)

/-- 'laws.FnOrderBy': WHATEVER THE INPUT: true; the input reads as it did. -/
def fnOrderBySpec : ChangeSpec := { name := "fnOrderBy", fn := fun _ => fun
  | [d] => { results := [.lit (.bool true)], args := [d] }
  | _ => none }
def fnOrderByRow : OpenClaim := { program := "ytlnjfgmodfkiiaa", sum := "a0d5acfb13d5723bd293a6c2dda9adb7c4418b6ef0fbebed3d5e70148ba4f3cd", func := "loop.example/wholewaves/laws.FnOrderBy", spec := "fnOrderBy", apart := false }
def FnOrderBySaid : Prop := fnOrderByRow.holds Try.pinned (OpenSpec.ofChange fnOrderBySpec)

/-- ITS FALSE NEIGHBOUR: 'it returns false'. Refute it at one input. -/
def fnOrderByWrong : ChangeSpec := { name := "fnOrderBy", fn := fun _ => fun
  | [d] => { results := [.lit (.bool false)], args := [d] }
  | _ => none }
def FnOrderByWrongFalsely : Prop := fnOrderByRow.holds Try.pinned (OpenSpec.ofChange fnOrderByWrong)

/-- 'laws.FnRootOf': WHATEVER THE INPUT: true; the input reads as it did. -/
def fnRootOfSpec : ChangeSpec := { name := "fnRootOf", fn := fun _ => fun
  | [d] => { results := [.lit (.bool true)], args := [d] }
  | _ => none }
def fnRootOfRow : OpenClaim := { program := "ytlnjfgmodfkiiaa", sum := "a0d5acfb13d5723bd293a6c2dda9adb7c4418b6ef0fbebed3d5e70148ba4f3cd", func := "loop.example/wholewaves/laws.FnRootOf", spec := "fnRootOf", apart := false }
def FnRootOfSaid : Prop := fnRootOfRow.holds Try.pinned (OpenSpec.ofChange fnRootOfSpec)

/-- ITS FALSE NEIGHBOUR: 'it returns false'. Refute it at one input. -/
def fnRootOfWrong : ChangeSpec := { name := "fnRootOf", fn := fun _ => fun
  | [d] => { results := [.lit (.bool false)], args := [d] }
  | _ => none }
def FnRootOfWrongFalsely : Prop := fnRootOfRow.holds Try.pinned (OpenSpec.ofChange fnRootOfWrong)

/-- 'laws.FnSquareSum': WHATEVER THE INPUT: true; the input reads as it did. -/
def fnSquareSumSpec : ChangeSpec := { name := "fnSquareSum", fn := fun _ => fun
  | [d] => { results := [.lit (.bool true)], args := [d] }
  | _ => none }
def fnSquareSumRow : OpenClaim := { program := "ytlnjfgmodfkiiaa", sum := "a0d5acfb13d5723bd293a6c2dda9adb7c4418b6ef0fbebed3d5e70148ba4f3cd", func := "loop.example/wholewaves/laws.FnSquareSum", spec := "fnSquareSum", apart := false }
def FnSquareSumSaid : Prop := fnSquareSumRow.holds Try.pinned (OpenSpec.ofChange fnSquareSumSpec)

/-- ITS FALSE NEIGHBOUR: 'it returns false'. Refute it at one input. -/
def fnSquareSumWrong : ChangeSpec := { name := "fnSquareSum", fn := fun _ => fun
  | [d] => { results := [.lit (.bool false)], args := [d] }
  | _ => none }
def FnSquareSumWrongFalsely : Prop := fnSquareSumRow.holds Try.pinned (OpenSpec.ofChange fnSquareSumWrong)

/-- 'laws.FnChangesIn': WHATEVER THE INPUT: true; the input reads as it did. -/
def fnChangesInSpec : ChangeSpec := { name := "fnChangesIn", fn := fun _ => fun
  | [d] => { results := [.lit (.bool true)], args := [d] }
  | _ => none }
def fnChangesInRow : OpenClaim := { program := "ytlnjfgmodfkiiaa", sum := "a0d5acfb13d5723bd293a6c2dda9adb7c4418b6ef0fbebed3d5e70148ba4f3cd", func := "loop.example/wholewaves/laws.FnChangesIn", spec := "fnChangesIn", apart := false }
def FnChangesInSaid : Prop := fnChangesInRow.holds Try.pinned (OpenSpec.ofChange fnChangesInSpec)

/-- ITS FALSE NEIGHBOUR: 'it returns false'. Refute it at one input. -/
def fnChangesInWrong : ChangeSpec := { name := "fnChangesIn", fn := fun _ => fun
  | [d] => { results := [.lit (.bool false)], args := [d] }
  | _ => none }
def FnChangesInWrongFalsely : Prop := fnChangesInRow.holds Try.pinned (OpenSpec.ofChange fnChangesInWrong)

/- THE SECOND FORM. 'bulk': how many values and letters a reading holds, each counted each time it is reached (what is shared counts as often as it is met; a slice's spare places count too). A statement '..UptoSaid' is the law's where the arguments, and the package variables that the reading takes, are together of bulk at most 1048576: NARROWER than '..Said'. Prove '..Said' where nothing that the law and all that it calls make is longer than what came in: it says more and counts as full. Else prove '..UptoSaid'. A law counts once. -/
mutual
def uptoBulk {H : Type} : DataW H → Nat
  | .lit (.string bytes) => bytes.length + 1
  | .lit _ => 1
  | .nil => 1
  | .ptr d => uptoBulk d + 1
  | .slice elems spare => uptoBulkAll elems + uptoBulkAll spare + 1
  | .agg parts => uptoBulkAll parts + 1
  | .iface _ d => uptoBulk d + 1
  | .map entries => uptoBulkEntries entries + 1
  | .held _ => 1
def uptoBulkAll {H : Type} : List (DataW H) → Nat
  | [] => 0
  | d :: r => uptoBulk d + uptoBulkAll r
def uptoBulkEntries {H : Type} : List (Lit × DataW H) → Nat
  | [] => 0
  | x :: r => uptoBulkEntry x + uptoBulkEntries r
def uptoBulkEntry {H : Type} : Lit × DataW H → Nat
  | (.string bytes, d) => bytes.length + uptoBulk d + 1
  | (_, d) => uptoBulk d + 1
 end
def uptoSmall : (H : Type) → List (DataW H) → Bool := fun _ ds => decide (uptoBulkAll ds ≤ 1048576)
def OpenSpec.upto (s : _root_.Go.ChangeSpec) : _root_.Go.OpenSpec := { _root_.Go.OpenSpec.ofChange s with cond := some uptoSmall }

/-- 'laws.FnValidRests', WHERE WHAT IT READS IS OF BULK AT MOST 1048576: true; the input reads as it did. -/
def fnValidRestsUptoRow : OpenClaim := { program := "ytlnjfgmodfkiiaa", sum := "a0d5acfb13d5723bd293a6c2dda9adb7c4418b6ef0fbebed3d5e70148ba4f3cd", func := "loop.example/wholewaves/laws.FnValidRests", spec := "fnValidRests", apart := false, narrowed := true }
def FnValidRestsUptoSaid : Prop := fnValidRestsUptoRow.holds Try.pinned (OpenSpec.upto fnValidRestsSpec)

/-- 'laws.FnOrderBy', WHERE WHAT IT READS IS OF BULK AT MOST 1048576: true; the input reads as it did. -/
def fnOrderByUptoRow : OpenClaim := { program := "ytlnjfgmodfkiiaa", sum := "a0d5acfb13d5723bd293a6c2dda9adb7c4418b6ef0fbebed3d5e70148ba4f3cd", func := "loop.example/wholewaves/laws.FnOrderBy", spec := "fnOrderBy", apart := false, narrowed := true }
def FnOrderByUptoSaid : Prop := fnOrderByUptoRow.holds Try.pinned (OpenSpec.upto fnOrderBySpec)

/-- 'laws.FnRootOf', WHERE WHAT IT READS IS OF BULK AT MOST 1048576: true; the input reads as it did. -/
def fnRootOfUptoRow : OpenClaim := { program := "ytlnjfgmodfkiiaa", sum := "a0d5acfb13d5723bd293a6c2dda9adb7c4418b6ef0fbebed3d5e70148ba4f3cd", func := "loop.example/wholewaves/laws.FnRootOf", spec := "fnRootOf", apart := false, narrowed := true }
def FnRootOfUptoSaid : Prop := fnRootOfUptoRow.holds Try.pinned (OpenSpec.upto fnRootOfSpec)

/-- 'laws.FnSquareSum', WHERE WHAT IT READS IS OF BULK AT MOST 1048576: true; the input reads as it did. -/
def fnSquareSumUptoRow : OpenClaim := { program := "ytlnjfgmodfkiiaa", sum := "a0d5acfb13d5723bd293a6c2dda9adb7c4418b6ef0fbebed3d5e70148ba4f3cd", func := "loop.example/wholewaves/laws.FnSquareSum", spec := "fnSquareSum", apart := false, narrowed := true }
def FnSquareSumUptoSaid : Prop := fnSquareSumUptoRow.holds Try.pinned (OpenSpec.upto fnSquareSumSpec)

/-- 'laws.FnChangesIn', WHERE WHAT IT READS IS OF BULK AT MOST 1048576: true; the input reads as it did. -/
def fnChangesInUptoRow : OpenClaim := { program := "ytlnjfgmodfkiiaa", sum := "a0d5acfb13d5723bd293a6c2dda9adb7c4418b6ef0fbebed3d5e70148ba4f3cd", func := "loop.example/wholewaves/laws.FnChangesIn", spec := "fnChangesIn", apart := false, narrowed := true }
def FnChangesInUptoSaid : Prop := fnChangesInUptoRow.holds Try.pinned (OpenSpec.upto fnChangesInSpec)

end Rows
end Go.Proofs.Ytlnjfgmodfkiiaa
