/-
  No cell of these rows narrows 'for every input' (looked for: loops, veiled, ifaces, maps, wideKeys, modest, calm, conditions, laid).
  DERIVED. THE GIVEN ROWS OF THIS SEAT. 6 by the template 'for every input the law returns true; each argument reads behind the call as it read before'; 0 by the template 'total and deterministic' (their statements: YtnhpcjghgnajhaaTotals.lean).
  GIVEN WITH THE SEED: the statements are not yours to turn. If you find one false, say at which input.
  Laid BY PROGRAM, IN A SANDBOX (cutbox-rows.mjs): the forced cells as the released guide's own fill.sh prints them over the translation 3f62f41f462cb670… (all of the seat's roots in one cut). By AI agents, Wed Nov 11 2026. No macro, syntax, notation, axiom, sorry.
-/
import Derived.Test.YtnhpcjghgnajhaaChecked
import GoSem.Claim
import GoSem.ClaimJoined
import GoSem.ClaimMapViews
import Derived.JoinedTies
import Derived.KernelRfl
namespace Go.Proofs.Ytnhpcjghgnajhaa
/- THE CELL 'sum', in the pinned program and in every row, IS THE sha256 OF THE DUMP (.gsa) THAT YtnhpcjghgnajhaaProg.lean LOADS. Nothing in Lean hashes anything: it is a label: what it is worth is what the hold of that sum in a sandbox is worth. -/
noncomputable def Try.pinned : Pinned := { name := "ytnhpcjghgnajhaa", sum := "3f62f41f462cb6709c12769a63611e7b6708c08bad19bd5d5641dd3842708737", checked := Try.checked }
namespace Rows
def none {H : Type} : Left H := { results := [], args := [] }

/-- 'laws.FnExactConstants': WHATEVER THE INPUT: true; the input reads as it did. -/
def fnExactConstantsSpec : ChangeSpec := { name := "fnExactConstants", fn := fun _ => fun
  | [] => { results := [.lit (.bool true)], args := [] }
  | _ => none }
def fnExactConstantsRow : OpenClaim := { program := "ytnhpcjghgnajhaa", sum := "3f62f41f462cb6709c12769a63611e7b6708c08bad19bd5d5641dd3842708737", func := "loop.example/wholewaves/laws.FnExactConstants", spec := "fnExactConstants", apart := false }
def FnExactConstantsSaid : Prop := fnExactConstantsRow.holds Try.pinned (OpenSpec.ofChange fnExactConstantsSpec)

/-- ITS FALSE NEIGHBOUR: 'it returns false'. Refute it at one input. -/
def fnExactConstantsWrong : ChangeSpec := { name := "fnExactConstants", fn := fun _ => fun
  | [] => { results := [.lit (.bool false)], args := [] }
  | _ => none }
def FnExactConstantsWrongFalsely : Prop := fnExactConstantsRow.holds Try.pinned (OpenSpec.ofChange fnExactConstantsWrong)

/-- 'laws.FnExactRootOf': WHATEVER THE INPUT: true; the input reads as it did. -/
def fnExactRootOfSpec : ChangeSpec := { name := "fnExactRootOf", fn := fun _ => fun
  | [d] => { results := [.lit (.bool true)], args := [d] }
  | _ => none }
def fnExactRootOfRow : OpenClaim := { program := "ytnhpcjghgnajhaa", sum := "3f62f41f462cb6709c12769a63611e7b6708c08bad19bd5d5641dd3842708737", func := "loop.example/wholewaves/laws.FnExactRootOf", spec := "fnExactRootOf", apart := false }
def FnExactRootOfSaid : Prop := fnExactRootOfRow.holds Try.pinned (OpenSpec.ofChange fnExactRootOfSpec)

/-- ITS FALSE NEIGHBOUR: 'it returns false'. Refute it at one input. -/
def fnExactRootOfWrong : ChangeSpec := { name := "fnExactRootOf", fn := fun _ => fun
  | [d] => { results := [.lit (.bool false)], args := [d] }
  | _ => none }
def FnExactRootOfWrongFalsely : Prop := fnExactRootOfRow.holds Try.pinned (OpenSpec.ofChange fnExactRootOfWrong)

/-- 'laws.FnExactSquareSum': WHATEVER THE INPUT: true; the input reads as it did. -/
def fnExactSquareSumSpec : ChangeSpec := { name := "fnExactSquareSum", fn := fun _ => fun
  | [d] => { results := [.lit (.bool true)], args := [d] }
  | _ => none }
def fnExactSquareSumRow : OpenClaim := { program := "ytnhpcjghgnajhaa", sum := "3f62f41f462cb6709c12769a63611e7b6708c08bad19bd5d5641dd3842708737", func := "loop.example/wholewaves/laws.FnExactSquareSum", spec := "fnExactSquareSum", apart := false }
def FnExactSquareSumSaid : Prop := fnExactSquareSumRow.holds Try.pinned (OpenSpec.ofChange fnExactSquareSumSpec)

/-- ITS FALSE NEIGHBOUR: 'it returns false'. Refute it at one input. -/
def fnExactSquareSumWrong : ChangeSpec := { name := "fnExactSquareSum", fn := fun _ => fun
  | [d] => { results := [.lit (.bool false)], args := [d] }
  | _ => none }
def FnExactSquareSumWrongFalsely : Prop := fnExactSquareSumRow.holds Try.pinned (OpenSpec.ofChange fnExactSquareSumWrong)

/-- 'laws.FnExactValidRests': WHATEVER THE INPUT: true; the input reads as it did. -/
def fnExactValidRestsSpec : ChangeSpec := { name := "fnExactValidRests", fn := fun _ => fun
  | [d] => { results := [.lit (.bool true)], args := [d] }
  | _ => none }
def fnExactValidRestsRow : OpenClaim := { program := "ytnhpcjghgnajhaa", sum := "3f62f41f462cb6709c12769a63611e7b6708c08bad19bd5d5641dd3842708737", func := "loop.example/wholewaves/laws.FnExactValidRests", spec := "fnExactValidRests", apart := false }
def FnExactValidRestsSaid : Prop := fnExactValidRestsRow.holds Try.pinned (OpenSpec.ofChange fnExactValidRestsSpec)

/-- ITS FALSE NEIGHBOUR: 'it returns false'. Refute it at one input. -/
def fnExactValidRestsWrong : ChangeSpec := { name := "fnExactValidRests", fn := fun _ => fun
  | [d] => { results := [.lit (.bool false)], args := [d] }
  | _ => none }
def FnExactValidRestsWrongFalsely : Prop := fnExactValidRestsRow.holds Try.pinned (OpenSpec.ofChange fnExactValidRestsWrong)

/-- 'laws.FnExactTurnOf': WHATEVER THE INPUT: true; the input reads as it did. -/
def fnExactTurnOfSpec : ChangeSpec := { name := "fnExactTurnOf", fn := fun _ => fun
  | [d1, d2] => { results := [.lit (.bool true)], args := [d1, d2] }
  | _ => none }
def fnExactTurnOfRow : OpenClaim := { program := "ytnhpcjghgnajhaa", sum := "3f62f41f462cb6709c12769a63611e7b6708c08bad19bd5d5641dd3842708737", func := "loop.example/wholewaves/laws.FnExactTurnOf", spec := "fnExactTurnOf", apart := false }
def FnExactTurnOfSaid : Prop := fnExactTurnOfRow.holds Try.pinned (OpenSpec.ofChange fnExactTurnOfSpec)

/-- ITS FALSE NEIGHBOUR: 'it returns false'. Refute it at one input. -/
def fnExactTurnOfWrong : ChangeSpec := { name := "fnExactTurnOf", fn := fun _ => fun
  | [d1, d2] => { results := [.lit (.bool false)], args := [d1, d2] }
  | _ => none }
def FnExactTurnOfWrongFalsely : Prop := fnExactTurnOfRow.holds Try.pinned (OpenSpec.ofChange fnExactTurnOfWrong)

/-- 'laws.FnExactRingOf': WHATEVER THE INPUT: true; the input reads as it did. -/
def fnExactRingOfSpec : ChangeSpec := { name := "fnExactRingOf", fn := fun _ => fun
  | [d1, d2] => { results := [.lit (.bool true)], args := [d1, d2] }
  | _ => none }
def fnExactRingOfRow : OpenClaim := { program := "ytnhpcjghgnajhaa", sum := "3f62f41f462cb6709c12769a63611e7b6708c08bad19bd5d5641dd3842708737", func := "loop.example/wholewaves/laws.FnExactRingOf", spec := "fnExactRingOf", apart := false }
def FnExactRingOfSaid : Prop := fnExactRingOfRow.holds Try.pinned (OpenSpec.ofChange fnExactRingOfSpec)

/-- ITS FALSE NEIGHBOUR: 'it returns false'. Refute it at one input. -/
def fnExactRingOfWrong : ChangeSpec := { name := "fnExactRingOf", fn := fun _ => fun
  | [d1, d2] => { results := [.lit (.bool false)], args := [d1, d2] }
  | _ => none }
def FnExactRingOfWrongFalsely : Prop := fnExactRingOfRow.holds Try.pinned (OpenSpec.ofChange fnExactRingOfWrong)

/- THE SECOND FORM. 'bulk': how many values and letters a reading holds, each counted each time it is reached (what is shared counts as often as it is met; a slice's spare places count too). A statement '..UptoSaid' is the law's where the arguments, and the package variables that the reading takes, are together of bulk at most 1048576: NARROWER than '..Said'. Prove '..Said' where nothing that the law and all that it calls make is longer than what came in: it says more and counts as full. Else prove '..UptoSaid'. A law counts once. -/
mutual
def uptoBulk {H : Type} : DataW H → Nat
  | .lit (.string bytes) => bytes.length + 1
  | .lit _ => 1
  | .nil => 1
  | .ptr d => uptoBulk d + 1
  | .slice elems spare => uptoBulkAll elems + uptoBulkAll spare + 1
  | .agg parts => uptoBulkAll parts + 1
  | .iface _ d => uptoBulk d + 1
  | .map entries => uptoBulkEntries entries + 1
  | .held _ => 1
def uptoBulkAll {H : Type} : List (DataW H) → Nat
  | [] => 0
  | d :: r => uptoBulk d + uptoBulkAll r
def uptoBulkEntries {H : Type} : List (Lit × DataW H) → Nat
  | [] => 0
  | x :: r => uptoBulkEntry x + uptoBulkEntries r
def uptoBulkEntry {H : Type} : Lit × DataW H → Nat
  | (.string bytes, d) => bytes.length + uptoBulk d + 1
  | (_, d) => uptoBulk d + 1
 end
def uptoSmall : (H : Type) → List (DataW H) → Bool := fun _ ds => decide (uptoBulkAll ds ≤ 1048576)
def OpenSpec.upto (s : _root_.Go.ChangeSpec) : _root_.Go.OpenSpec := { _root_.Go.OpenSpec.ofChange s with cond := some uptoSmall }

/-- 'laws.FnExactConstants', WHERE WHAT IT READS IS OF BULK AT MOST 1048576: true; the input reads as it did. -/
def fnExactConstantsUptoRow : OpenClaim := { program := "ytnhpcjghgnajhaa", sum := "3f62f41f462cb6709c12769a63611e7b6708c08bad19bd5d5641dd3842708737", func := "loop.example/wholewaves/laws.FnExactConstants", spec := "fnExactConstants", apart := false, narrowed := true }
def FnExactConstantsUptoSaid : Prop := fnExactConstantsUptoRow.holds Try.pinned (OpenSpec.upto fnExactConstantsSpec)

/-- 'laws.FnExactRootOf', WHERE WHAT IT READS IS OF BULK AT MOST 1048576: true; the input reads as it did. -/
def fnExactRootOfUptoRow : OpenClaim := { program := "ytnhpcjghgnajhaa", sum := "3f62f41f462cb6709c12769a63611e7b6708c08bad19bd5d5641dd3842708737", func := "loop.example/wholewaves/laws.FnExactRootOf", spec := "fnExactRootOf", apart := false, narrowed := true }
def FnExactRootOfUptoSaid : Prop := fnExactRootOfUptoRow.holds Try.pinned (OpenSpec.upto fnExactRootOfSpec)

/-- 'laws.FnExactSquareSum', WHERE WHAT IT READS IS OF BULK AT MOST 1048576: true; the input reads as it did. -/
def fnExactSquareSumUptoRow : OpenClaim := { program := "ytnhpcjghgnajhaa", sum := "3f62f41f462cb6709c12769a63611e7b6708c08bad19bd5d5641dd3842708737", func := "loop.example/wholewaves/laws.FnExactSquareSum", spec := "fnExactSquareSum", apart := false, narrowed := true }
def FnExactSquareSumUptoSaid : Prop := fnExactSquareSumUptoRow.holds Try.pinned (OpenSpec.upto fnExactSquareSumSpec)

/-- 'laws.FnExactValidRests', WHERE WHAT IT READS IS OF BULK AT MOST 1048576: true; the input reads as it did. -/
def fnExactValidRestsUptoRow : OpenClaim := { program := "ytnhpcjghgnajhaa", sum := "3f62f41f462cb6709c12769a63611e7b6708c08bad19bd5d5641dd3842708737", func := "loop.example/wholewaves/laws.FnExactValidRests", spec := "fnExactValidRests", apart := false, narrowed := true }
def FnExactValidRestsUptoSaid : Prop := fnExactValidRestsUptoRow.holds Try.pinned (OpenSpec.upto fnExactValidRestsSpec)

/-- 'laws.FnExactTurnOf', WHERE WHAT IT READS IS OF BULK AT MOST 1048576: true; the input reads as it did. -/
def fnExactTurnOfUptoRow : OpenClaim := { program := "ytnhpcjghgnajhaa", sum := "3f62f41f462cb6709c12769a63611e7b6708c08bad19bd5d5641dd3842708737", func := "loop.example/wholewaves/laws.FnExactTurnOf", spec := "fnExactTurnOf", apart := false, narrowed := true }
def FnExactTurnOfUptoSaid : Prop := fnExactTurnOfUptoRow.holds Try.pinned (OpenSpec.upto fnExactTurnOfSpec)

/-- 'laws.FnExactRingOf', WHERE WHAT IT READS IS OF BULK AT MOST 1048576: true; the input reads as it did. -/
def fnExactRingOfUptoRow : OpenClaim := { program := "ytnhpcjghgnajhaa", sum := "3f62f41f462cb6709c12769a63611e7b6708c08bad19bd5d5641dd3842708737", func := "loop.example/wholewaves/laws.FnExactRingOf", spec := "fnExactRingOf", apart := false, narrowed := true }
def FnExactRingOfUptoSaid : Prop := fnExactRingOfUptoRow.holds Try.pinned (OpenSpec.upto fnExactRingOfSpec)

end Rows
end Go.Proofs.Ytnhpcjghgnajhaa
