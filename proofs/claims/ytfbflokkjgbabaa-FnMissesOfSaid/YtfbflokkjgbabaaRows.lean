/-
  No cell of these rows narrows 'for every input' (looked for: loops, veiled, ifaces, maps, wideKeys, modest, calm, conditions, laid).
  DERIVED. THE GIVEN ROWS OF THIS SEAT. 4 by the template 'for every input the law returns true; each argument reads behind the call as it read before'; 0 by the template 'total and deterministic' (their statements: YtfbflokkjgbabaaTotals.lean).
  GIVEN WITH THE SEED: the statements are not yours to turn. If you find one false, say at which input.
  Laid BY PROGRAM, IN A SANDBOX (cutbox-rows.mjs): the forced cells as the released guide's own fill.sh prints them over the translation 229104f3d9b782f7… (all of the seat's roots in one cut). By AI agents, Wed Nov 11 2026. No macro, syntax, notation, axiom, sorry.
-/
import Derived.Test.YtfbflokkjgbabaaChecked
import GoSem.Claim
import GoSem.ClaimJoined
import GoSem.ClaimMapViews
import Derived.JoinedTies
import Derived.KernelRfl
namespace Go.Proofs.Ytfbflokkjgbabaa
/- THE CELL 'sum', in the pinned program and in every row, IS THE sha256 OF THE DUMP (.gsa) THAT YtfbflokkjgbabaaProg.lean LOADS. Nothing in Lean hashes anything: it is a label: what it is worth is what the hold of that sum in a sandbox is worth. -/
noncomputable def Try.pinned : Pinned := { name := "ytfbflokkjgbabaa", sum := "229104f3d9b782f74285841fc6b0f6d1d42ced56e7a8266ff22abddd06310a06", checked := Try.checked }
namespace Rows
def none {H : Type} : Left H := { results := [], args := [] }

/-- 'laws.FnSumCounts': WHATEVER THE INPUT: true; the input reads as it did. -/
def fnSumCountsSpec : ChangeSpec := { name := "fnSumCounts", fn := fun _ => fun
  | [d] => { results := [.lit (.bool true)], args := [d] }
  | _ => none }
def fnSumCountsRow : OpenClaim := { program := "ytfbflokkjgbabaa", sum := "229104f3d9b782f74285841fc6b0f6d1d42ced56e7a8266ff22abddd06310a06", func := "loop.example/wholewaves/laws.FnSumCounts", spec := "fnSumCounts", apart := false }
def FnSumCountsSaid : Prop := fnSumCountsRow.holds Try.pinned (OpenSpec.ofChange fnSumCountsSpec)

/-- ITS FALSE NEIGHBOUR: 'it returns false'. Refute it at one input. -/
def fnSumCountsWrong : ChangeSpec := { name := "fnSumCounts", fn := fun _ => fun
  | [d] => { results := [.lit (.bool false)], args := [d] }
  | _ => none }
def FnSumCountsWrongFalsely : Prop := fnSumCountsRow.holds Try.pinned (OpenSpec.ofChange fnSumCountsWrong)

/-- 'laws.FnSumSet': WHATEVER THE INPUT: true; the input reads as it did. -/
def fnSumSetSpec : ChangeSpec := { name := "fnSumSet", fn := fun _ => fun
  | [d] => { results := [.lit (.bool true)], args := [d] }
  | _ => none }
def fnSumSetRow : OpenClaim := { program := "ytfbflokkjgbabaa", sum := "229104f3d9b782f74285841fc6b0f6d1d42ced56e7a8266ff22abddd06310a06", func := "loop.example/wholewaves/laws.FnSumSet", spec := "fnSumSet", apart := false }
def FnSumSetSaid : Prop := fnSumSetRow.holds Try.pinned (OpenSpec.ofChange fnSumSetSpec)

/-- ITS FALSE NEIGHBOUR: 'it returns false'. Refute it at one input. -/
def fnSumSetWrong : ChangeSpec := { name := "fnSumSet", fn := fun _ => fun
  | [d] => { results := [.lit (.bool false)], args := [d] }
  | _ => none }
def FnSumSetWrongFalsely : Prop := fnSumSetRow.holds Try.pinned (OpenSpec.ofChange fnSumSetWrong)

/-- 'laws.FnMissesOf': WHATEVER THE INPUT: true; the input reads as it did. -/
def fnMissesOfSpec : ChangeSpec := { name := "fnMissesOf", fn := fun _ => fun
  | [d] => { results := [.lit (.bool true)], args := [d] }
  | _ => none }
def fnMissesOfRow : OpenClaim := { program := "ytfbflokkjgbabaa", sum := "229104f3d9b782f74285841fc6b0f6d1d42ced56e7a8266ff22abddd06310a06", func := "loop.example/wholewaves/laws.FnMissesOf", spec := "fnMissesOf", apart := false }
def FnMissesOfSaid : Prop := fnMissesOfRow.holds Try.pinned (OpenSpec.ofChange fnMissesOfSpec)

/-- ITS FALSE NEIGHBOUR: 'it returns false'. Refute it at one input. -/
def fnMissesOfWrong : ChangeSpec := { name := "fnMissesOf", fn := fun _ => fun
  | [d] => { results := [.lit (.bool false)], args := [d] }
  | _ => none }
def FnMissesOfWrongFalsely : Prop := fnMissesOfRow.holds Try.pinned (OpenSpec.ofChange fnMissesOfWrong)

/-- 'laws.FnMostSparse': WHATEVER THE INPUT: true; the input reads as it did. -/
def fnMostSparseSpec : ChangeSpec := { name := "fnMostSparse", fn := fun _ => fun
  | [d] => { results := [.lit (.bool true)], args := [d] }
  | _ => none }
def fnMostSparseRow : OpenClaim := { program := "ytfbflokkjgbabaa", sum := "229104f3d9b782f74285841fc6b0f6d1d42ced56e7a8266ff22abddd06310a06", func := "loop.example/wholewaves/laws.FnMostSparse", spec := "fnMostSparse", recurses := true, apart := false }
def FnMostSparseSaid : Prop := fnMostSparseRow.holds Try.pinned (OpenSpec.ofChange fnMostSparseSpec)

/-- ITS FALSE NEIGHBOUR: 'it returns false'. Refute it at one input. -/
def fnMostSparseWrong : ChangeSpec := { name := "fnMostSparse", fn := fun _ => fun
  | [d] => { results := [.lit (.bool false)], args := [d] }
  | _ => none }
def FnMostSparseWrongFalsely : Prop := fnMostSparseRow.holds Try.pinned (OpenSpec.ofChange fnMostSparseWrong)

/- THE SECOND FORM. 'bulk': how many values and letters a reading holds, each counted each time it is reached (what is shared counts as often as it is met; a slice's spare places count too). A statement '..UptoSaid' is the law's where the arguments, and the package variables that the reading takes, are together of bulk at most 1048576: NARROWER than '..Said'. Prove '..Said' where nothing that the law and all that it calls make is longer than what came in: it says more and counts as full. Else prove '..UptoSaid'. A law counts once. -/
mutual
def uptoBulk {H : Type} : DataW H → Nat
  | .lit (.string bytes) => bytes.length + 1
  | .lit _ => 1
  | .nil => 1
  | .ptr d => uptoBulk d + 1
  | .slice elems spare => uptoBulkAll elems + uptoBulkAll spare + 1
  | .agg parts => uptoBulkAll parts + 1
  | .iface _ d => uptoBulk d + 1
  | .map entries => uptoBulkEntries entries + 1
  | .held _ => 1
def uptoBulkAll {H : Type} : List (DataW H) → Nat
  | [] => 0
  | d :: r => uptoBulk d + uptoBulkAll r
def uptoBulkEntries {H : Type} : List (Lit × DataW H) → Nat
  | [] => 0
  | x :: r => uptoBulkEntry x + uptoBulkEntries r
def uptoBulkEntry {H : Type} : Lit × DataW H → Nat
  | (.string bytes, d) => bytes.length + uptoBulk d + 1
  | (_, d) => uptoBulk d + 1
 end
def uptoSmall : (H : Type) → List (DataW H) → Bool := fun _ ds => decide (uptoBulkAll ds ≤ 1048576)
def OpenSpec.upto (s : _root_.Go.ChangeSpec) : _root_.Go.OpenSpec := { _root_.Go.OpenSpec.ofChange s with cond := some uptoSmall }

/-- 'laws.FnSumCounts', WHERE WHAT IT READS IS OF BULK AT MOST 1048576: true; the input reads as it did. -/
def fnSumCountsUptoRow : OpenClaim := { program := "ytfbflokkjgbabaa", sum := "229104f3d9b782f74285841fc6b0f6d1d42ced56e7a8266ff22abddd06310a06", func := "loop.example/wholewaves/laws.FnSumCounts", spec := "fnSumCounts", apart := false, narrowed := true }
def FnSumCountsUptoSaid : Prop := fnSumCountsUptoRow.holds Try.pinned (OpenSpec.upto fnSumCountsSpec)

/-- 'laws.FnSumSet', WHERE WHAT IT READS IS OF BULK AT MOST 1048576: true; the input reads as it did. -/
def fnSumSetUptoRow : OpenClaim := { program := "ytfbflokkjgbabaa", sum := "229104f3d9b782f74285841fc6b0f6d1d42ced56e7a8266ff22abddd06310a06", func := "loop.example/wholewaves/laws.FnSumSet", spec := "fnSumSet", apart := false, narrowed := true }
def FnSumSetUptoSaid : Prop := fnSumSetUptoRow.holds Try.pinned (OpenSpec.upto fnSumSetSpec)

/-- 'laws.FnMissesOf', WHERE WHAT IT READS IS OF BULK AT MOST 1048576: true; the input reads as it did. -/
def fnMissesOfUptoRow : OpenClaim := { program := "ytfbflokkjgbabaa", sum := "229104f3d9b782f74285841fc6b0f6d1d42ced56e7a8266ff22abddd06310a06", func := "loop.example/wholewaves/laws.FnMissesOf", spec := "fnMissesOf", apart := false, narrowed := true }
def FnMissesOfUptoSaid : Prop := fnMissesOfUptoRow.holds Try.pinned (OpenSpec.upto fnMissesOfSpec)

/-- 'laws.FnMostSparse', WHERE WHAT IT READS IS OF BULK AT MOST 1048576: true; the input reads as it did. -/
def fnMostSparseUptoRow : OpenClaim := { program := "ytfbflokkjgbabaa", sum := "229104f3d9b782f74285841fc6b0f6d1d42ced56e7a8266ff22abddd06310a06", func := "loop.example/wholewaves/laws.FnMostSparse", spec := "fnMostSparse", recurses := true, apart := false, narrowed := true }
def FnMostSparseUptoSaid : Prop := fnMostSparseUptoRow.holds Try.pinned (OpenSpec.upto fnMostSparseSpec)

end Rows
end Go.Proofs.Ytfbflokkjgbabaa
