/-
  No cell of these rows narrows 'for every input' (looked for: loops, veiled, ifaces, maps, wideKeys, modest, calm, conditions, laid).
  DERIVED. THE GIVEN ROWS OF THIS SEAT. 7 by the template 'for every input the law returns true; each argument reads behind the call as it read before'; 0 by the template 'total and deterministic' (their statements: YtokhgkmdeionoaaTotals.lean).
  GIVEN WITH THE SEED: the statements are not yours to turn. If you find one false, say at which input.
  Laid BY PROGRAM, IN A SANDBOX (cutbox-rows.mjs): the forced cells as the released guide's own fill.sh prints them over the translation 2ccbf0b8037efe19… (all of the seat's roots in one cut). By AI agents, Wed Nov 11 2026. No macro, syntax, notation, axiom, sorry.
-/
import Derived.Test.YtokhgkmdeionoaaChecked
import GoSem.Claim
import GoSem.ClaimJoined
import GoSem.ClaimMapViews
import Derived.JoinedTies
import Derived.KernelRfl
namespace Go.Proofs.Ytokhgkmdeionoaa
/- THE CELL 'sum', in the pinned program and in every row, IS THE sha256 OF THE DUMP (.gsa) THAT YtokhgkmdeionoaaProg.lean LOADS. Nothing in Lean hashes anything: it is a label: what it is worth is what the hold of that sum in a sandbox is worth. -/
noncomputable def Try.pinned : Pinned := { name := "ytokhgkmdeionoaa", sum := "2ccbf0b8037efe19e86de777f6871fc6eb2120e9b9c227dbe80dd978db1fad65", checked := Try.checked }
namespace Rows
def none {H : Type} : Left H := { results := [], args := [] }

/-- 'laws.FnExactIsSparse': WHATEVER THE INPUT: true; the input reads as it did. -/
def fnExactIsSparseSpec : ChangeSpec := { name := "fnExactIsSparse", fn := fun _ => fun
  | [d] => { results := [.lit (.bool true)], args := [d] }
  | _ => none }
def fnExactIsSparseRow : OpenClaim := { program := "ytokhgkmdeionoaa", sum := "2ccbf0b8037efe19e86de777f6871fc6eb2120e9b9c227dbe80dd978db1fad65", func := "loop.example/wholewaves/laws.FnExactIsSparse", spec := "fnExactIsSparse", apart := false }
def FnExactIsSparseSaid : Prop := fnExactIsSparseRow.holds Try.pinned (OpenSpec.ofChange fnExactIsSparseSpec)

/-- ITS FALSE NEIGHBOUR: 'it returns false'. Refute it at one input. -/
def fnExactIsSparseWrong : ChangeSpec := { name := "fnExactIsSparse", fn := fun _ => fun
  | [d] => { results := [.lit (.bool false)], args := [d] }
  | _ => none }
def FnExactIsSparseWrongFalsely : Prop := fnExactIsSparseRow.holds Try.pinned (OpenSpec.ofChange fnExactIsSparseWrong)

/-- 'laws.FnExactSumSet': WHATEVER THE INPUT: true; the input reads as it did. -/
def fnExactSumSetSpec : ChangeSpec := { name := "fnExactSumSet", fn := fun _ => fun
  | [d1, d2] => { results := [.lit (.bool true)], args := [d1, d2] }
  | _ => none }
def fnExactSumSetRow : OpenClaim := { program := "ytokhgkmdeionoaa", sum := "2ccbf0b8037efe19e86de777f6871fc6eb2120e9b9c227dbe80dd978db1fad65", func := "loop.example/wholewaves/laws.FnExactSumSet", spec := "fnExactSumSet", apart := false }
def FnExactSumSetSaid : Prop := fnExactSumSetRow.holds Try.pinned (OpenSpec.ofChange fnExactSumSetSpec)

/-- ITS FALSE NEIGHBOUR: 'it returns false'. Refute it at one input. -/
def fnExactSumSetWrong : ChangeSpec := { name := "fnExactSumSet", fn := fun _ => fun
  | [d1, d2] => { results := [.lit (.bool false)], args := [d1, d2] }
  | _ => none }
def FnExactSumSetWrongFalsely : Prop := fnExactSumSetRow.holds Try.pinned (OpenSpec.ofChange fnExactSumSetWrong)

/-- 'laws.FnExactSumCounts': WHATEVER THE INPUT: true; the input reads as it did. -/
def fnExactSumCountsSpec : ChangeSpec := { name := "fnExactSumCounts", fn := fun _ => fun
  | [d1, d2] => { results := [.lit (.bool true)], args := [d1, d2] }
  | _ => none }
def fnExactSumCountsRow : OpenClaim := { program := "ytokhgkmdeionoaa", sum := "2ccbf0b8037efe19e86de777f6871fc6eb2120e9b9c227dbe80dd978db1fad65", func := "loop.example/wholewaves/laws.FnExactSumCounts", spec := "fnExactSumCounts", apart := false }
def FnExactSumCountsSaid : Prop := fnExactSumCountsRow.holds Try.pinned (OpenSpec.ofChange fnExactSumCountsSpec)

/-- ITS FALSE NEIGHBOUR: 'it returns false'. Refute it at one input. -/
def fnExactSumCountsWrong : ChangeSpec := { name := "fnExactSumCounts", fn := fun _ => fun
  | [d1, d2] => { results := [.lit (.bool false)], args := [d1, d2] }
  | _ => none }
def FnExactSumCountsWrongFalsely : Prop := fnExactSumCountsRow.holds Try.pinned (OpenSpec.ofChange fnExactSumCountsWrong)

/-- 'laws.FnExactChangesIn': WHATEVER THE INPUT: true; the input reads as it did. -/
def fnExactChangesInSpec : ChangeSpec := { name := "fnExactChangesIn", fn := fun _ => fun
  | [d1, d2] => { results := [.lit (.bool true)], args := [d1, d2] }
  | _ => none }
def fnExactChangesInRow : OpenClaim := { program := "ytokhgkmdeionoaa", sum := "2ccbf0b8037efe19e86de777f6871fc6eb2120e9b9c227dbe80dd978db1fad65", func := "loop.example/wholewaves/laws.FnExactChangesIn", spec := "fnExactChangesIn", apart := false }
def FnExactChangesInSaid : Prop := fnExactChangesInRow.holds Try.pinned (OpenSpec.ofChange fnExactChangesInSpec)

/-- ITS FALSE NEIGHBOUR: 'it returns false'. Refute it at one input. -/
def fnExactChangesInWrong : ChangeSpec := { name := "fnExactChangesIn", fn := fun _ => fun
  | [d1, d2] => { results := [.lit (.bool false)], args := [d1, d2] }
  | _ => none }
def FnExactChangesInWrongFalsely : Prop := fnExactChangesInRow.holds Try.pinned (OpenSpec.ofChange fnExactChangesInWrong)

/-- 'laws.FnExactMatchesOf': WHATEVER THE INPUT: true; the input reads as it did. -/
def fnExactMatchesOfSpec : ChangeSpec := { name := "fnExactMatchesOf", fn := fun _ => fun
  | [d1, d2] => { results := [.lit (.bool true)], args := [d1, d2] }
  | _ => none }
def fnExactMatchesOfRow : OpenClaim := { program := "ytokhgkmdeionoaa", sum := "2ccbf0b8037efe19e86de777f6871fc6eb2120e9b9c227dbe80dd978db1fad65", func := "loop.example/wholewaves/laws.FnExactMatchesOf", spec := "fnExactMatchesOf", apart := false }
def FnExactMatchesOfSaid : Prop := fnExactMatchesOfRow.holds Try.pinned (OpenSpec.ofChange fnExactMatchesOfSpec)

/-- ITS FALSE NEIGHBOUR: 'it returns false'. Refute it at one input. -/
def fnExactMatchesOfWrong : ChangeSpec := { name := "fnExactMatchesOf", fn := fun _ => fun
  | [d1, d2] => { results := [.lit (.bool false)], args := [d1, d2] }
  | _ => none }
def FnExactMatchesOfWrongFalsely : Prop := fnExactMatchesOfRow.holds Try.pinned (OpenSpec.ofChange fnExactMatchesOfWrong)

/-- 'laws.FnExactMissesOf': WHATEVER THE INPUT: true; the input reads as it did. -/
def fnExactMissesOfSpec : ChangeSpec := { name := "fnExactMissesOf", fn := fun _ => fun
  | [d1, d2] => { results := [.lit (.bool true)], args := [d1, d2] }
  | _ => none }
def fnExactMissesOfRow : OpenClaim := { program := "ytokhgkmdeionoaa", sum := "2ccbf0b8037efe19e86de777f6871fc6eb2120e9b9c227dbe80dd978db1fad65", func := "loop.example/wholewaves/laws.FnExactMissesOf", spec := "fnExactMissesOf", apart := false }
def FnExactMissesOfSaid : Prop := fnExactMissesOfRow.holds Try.pinned (OpenSpec.ofChange fnExactMissesOfSpec)

/-- ITS FALSE NEIGHBOUR: 'it returns false'. Refute it at one input. -/
def fnExactMissesOfWrong : ChangeSpec := { name := "fnExactMissesOf", fn := fun _ => fun
  | [d1, d2] => { results := [.lit (.bool false)], args := [d1, d2] }
  | _ => none }
def FnExactMissesOfWrongFalsely : Prop := fnExactMissesOfRow.holds Try.pinned (OpenSpec.ofChange fnExactMissesOfWrong)

/-- 'laws.FnExactMostSparse': WHATEVER THE INPUT: true; the input reads as it did. -/
def fnExactMostSparseSpec : ChangeSpec := { name := "fnExactMostSparse", fn := fun _ => fun
  | [] => { results := [.lit (.bool true)], args := [] }
  | _ => none }
def fnExactMostSparseRow : OpenClaim := { program := "ytokhgkmdeionoaa", sum := "2ccbf0b8037efe19e86de777f6871fc6eb2120e9b9c227dbe80dd978db1fad65", func := "loop.example/wholewaves/laws.FnExactMostSparse", spec := "fnExactMostSparse", recurses := true, apart := false }
def FnExactMostSparseSaid : Prop := fnExactMostSparseRow.holds Try.pinned (OpenSpec.ofChange fnExactMostSparseSpec)

/-- ITS FALSE NEIGHBOUR: 'it returns false'. Refute it at one input. -/
def fnExactMostSparseWrong : ChangeSpec := { name := "fnExactMostSparse", fn := fun _ => fun
  | [] => { results := [.lit (.bool false)], args := [] }
  | _ => none }
def FnExactMostSparseWrongFalsely : Prop := fnExactMostSparseRow.holds Try.pinned (OpenSpec.ofChange fnExactMostSparseWrong)

/- THE SECOND FORM. 'bulk': how many values and letters a reading holds, each counted each time it is reached (what is shared counts as often as it is met; a slice's spare places count too). A statement '..UptoSaid' is the law's where the arguments, and the package variables that the reading takes, are together of bulk at most 1048576: NARROWER than '..Said'. Prove '..Said' where nothing that the law and all that it calls make is longer than what came in: it says more and counts as full. Else prove '..UptoSaid'. A law counts once. -/
mutual
def uptoBulk {H : Type} : DataW H → Nat
  | .lit (.string bytes) => bytes.length + 1
  | .lit _ => 1
  | .nil => 1
  | .ptr d => uptoBulk d + 1
  | .slice elems spare => uptoBulkAll elems + uptoBulkAll spare + 1
  | .agg parts => uptoBulkAll parts + 1
  | .iface _ d => uptoBulk d + 1
  | .map entries => uptoBulkEntries entries + 1
  | .held _ => 1
def uptoBulkAll {H : Type} : List (DataW H) → Nat
  | [] => 0
  | d :: r => uptoBulk d + uptoBulkAll r
def uptoBulkEntries {H : Type} : List (Lit × DataW H) → Nat
  | [] => 0
  | x :: r => uptoBulkEntry x + uptoBulkEntries r
def uptoBulkEntry {H : Type} : Lit × DataW H → Nat
  | (.string bytes, d) => bytes.length + uptoBulk d + 1
  | (_, d) => uptoBulk d + 1
 end
def uptoSmall : (H : Type) → List (DataW H) → Bool := fun _ ds => decide (uptoBulkAll ds ≤ 1048576)
def OpenSpec.upto (s : _root_.Go.ChangeSpec) : _root_.Go.OpenSpec := { _root_.Go.OpenSpec.ofChange s with cond := some uptoSmall }

/-- 'laws.FnExactIsSparse', WHERE WHAT IT READS IS OF BULK AT MOST 1048576: true; the input reads as it did. -/
def fnExactIsSparseUptoRow : OpenClaim := { program := "ytokhgkmdeionoaa", sum := "2ccbf0b8037efe19e86de777f6871fc6eb2120e9b9c227dbe80dd978db1fad65", func := "loop.example/wholewaves/laws.FnExactIsSparse", spec := "fnExactIsSparse", apart := false, narrowed := true }
def FnExactIsSparseUptoSaid : Prop := fnExactIsSparseUptoRow.holds Try.pinned (OpenSpec.upto fnExactIsSparseSpec)

/-- 'laws.FnExactSumSet', WHERE WHAT IT READS IS OF BULK AT MOST 1048576: true; the input reads as it did. -/
def fnExactSumSetUptoRow : OpenClaim := { program := "ytokhgkmdeionoaa", sum := "2ccbf0b8037efe19e86de777f6871fc6eb2120e9b9c227dbe80dd978db1fad65", func := "loop.example/wholewaves/laws.FnExactSumSet", spec := "fnExactSumSet", apart := false, narrowed := true }
def FnExactSumSetUptoSaid : Prop := fnExactSumSetUptoRow.holds Try.pinned (OpenSpec.upto fnExactSumSetSpec)

/-- 'laws.FnExactSumCounts', WHERE WHAT IT READS IS OF BULK AT MOST 1048576: true; the input reads as it did. -/
def fnExactSumCountsUptoRow : OpenClaim := { program := "ytokhgkmdeionoaa", sum := "2ccbf0b8037efe19e86de777f6871fc6eb2120e9b9c227dbe80dd978db1fad65", func := "loop.example/wholewaves/laws.FnExactSumCounts", spec := "fnExactSumCounts", apart := false, narrowed := true }
def FnExactSumCountsUptoSaid : Prop := fnExactSumCountsUptoRow.holds Try.pinned (OpenSpec.upto fnExactSumCountsSpec)

/-- 'laws.FnExactChangesIn', WHERE WHAT IT READS IS OF BULK AT MOST 1048576: true; the input reads as it did. -/
def fnExactChangesInUptoRow : OpenClaim := { program := "ytokhgkmdeionoaa", sum := "2ccbf0b8037efe19e86de777f6871fc6eb2120e9b9c227dbe80dd978db1fad65", func := "loop.example/wholewaves/laws.FnExactChangesIn", spec := "fnExactChangesIn", apart := false, narrowed := true }
def FnExactChangesInUptoSaid : Prop := fnExactChangesInUptoRow.holds Try.pinned (OpenSpec.upto fnExactChangesInSpec)

/-- 'laws.FnExactMatchesOf', WHERE WHAT IT READS IS OF BULK AT MOST 1048576: true; the input reads as it did. -/
def fnExactMatchesOfUptoRow : OpenClaim := { program := "ytokhgkmdeionoaa", sum := "2ccbf0b8037efe19e86de777f6871fc6eb2120e9b9c227dbe80dd978db1fad65", func := "loop.example/wholewaves/laws.FnExactMatchesOf", spec := "fnExactMatchesOf", apart := false, narrowed := true }
def FnExactMatchesOfUptoSaid : Prop := fnExactMatchesOfUptoRow.holds Try.pinned (OpenSpec.upto fnExactMatchesOfSpec)

/-- 'laws.FnExactMissesOf', WHERE WHAT IT READS IS OF BULK AT MOST 1048576: true; the input reads as it did. -/
def fnExactMissesOfUptoRow : OpenClaim := { program := "ytokhgkmdeionoaa", sum := "2ccbf0b8037efe19e86de777f6871fc6eb2120e9b9c227dbe80dd978db1fad65", func := "loop.example/wholewaves/laws.FnExactMissesOf", spec := "fnExactMissesOf", apart := false, narrowed := true }
def FnExactMissesOfUptoSaid : Prop := fnExactMissesOfUptoRow.holds Try.pinned (OpenSpec.upto fnExactMissesOfSpec)

/-- 'laws.FnExactMostSparse', WHERE WHAT IT READS IS OF BULK AT MOST 1048576: true; the input reads as it did. -/
def fnExactMostSparseUptoRow : OpenClaim := { program := "ytokhgkmdeionoaa", sum := "2ccbf0b8037efe19e86de777f6871fc6eb2120e9b9c227dbe80dd978db1fad65", func := "loop.example/wholewaves/laws.FnExactMostSparse", spec := "fnExactMostSparse", recurses := true, apart := false, narrowed := true }
def FnExactMostSparseUptoSaid : Prop := fnExactMostSparseUptoRow.holds Try.pinned (OpenSpec.upto fnExactMostSparseSpec)

end Rows
end Go.Proofs.Ytokhgkmdeionoaa
