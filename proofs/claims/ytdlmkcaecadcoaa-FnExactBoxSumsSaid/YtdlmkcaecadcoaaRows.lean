/-
  No cell of these rows narrows 'for every input' (looked for: loops, veiled, ifaces, maps, wideKeys, modest, calm, conditions, laid).
  DERIVED. THE GIVEN ROWS OF THIS SEAT. 12 by the template 'for every input the law returns true; each argument reads behind the call as it read before'; 0 by the template 'total and deterministic' (their statements: YtdlmkcaecadcoaaTotals.lean).
  GIVEN WITH THE SEED: the statements are not yours to turn. If you find one false, say at which input.
  Laid BY PROGRAM, IN A SANDBOX (cutbox-rows.mjs): the forced cells as the released guide's own fill.sh prints them over the translation c94b5d890d71d1d7… (all of the seat's roots in one cut). By AI agents, Wed Nov 11 2026. No macro, syntax, notation, axiom, sorry.
-/
import Derived.Test.YtdlmkcaecadcoaaChecked
import GoSem.Claim
import GoSem.ClaimJoined
import GoSem.ClaimMapViews
import Derived.JoinedTies
import Derived.KernelRfl
namespace Go.Proofs.Ytdlmkcaecadcoaa
/- THE CELL 'sum', in the pinned program and in every row, IS THE sha256 OF THE DUMP (.gsa) THAT YtdlmkcaecadcoaaProg.lean LOADS. Nothing in Lean hashes anything: it is a label: what it is worth is what the hold of that sum in a sandbox is worth. -/
noncomputable def Try.pinned : Pinned := { name := "ytdlmkcaecadcoaa", sum := "c94b5d890d71d1d767a7bb252a6c69d63bb9f6565586078386d649c066b318ff", checked := Try.checked }
namespace Rows
def none {H : Type} : Left H := { results := [], args := [] }

/-- 'laws.FnExactValidRow': WHATEVER THE INPUT: true; the input reads as it did. -/
def fnExactValidRowSpec : ChangeSpec := { name := "fnExactValidRow", fn := fun _ => fun
  | [d] => { results := [.lit (.bool true)], args := [d] }
  | _ => none }
def fnExactValidRowRow : OpenClaim := { program := "ytdlmkcaecadcoaa", sum := "c94b5d890d71d1d767a7bb252a6c69d63bb9f6565586078386d649c066b318ff", func := "loop.example/wholewaves/laws.FnExactValidRow", spec := "fnExactValidRow", apart := false }
def FnExactValidRowSaid : Prop := fnExactValidRowRow.holds Try.pinned (OpenSpec.ofChange fnExactValidRowSpec)

/-- ITS FALSE NEIGHBOUR: 'it returns false'. Refute it at one input. -/
def fnExactValidRowWrong : ChangeSpec := { name := "fnExactValidRow", fn := fun _ => fun
  | [d] => { results := [.lit (.bool false)], args := [d] }
  | _ => none }
def FnExactValidRowWrongFalsely : Prop := fnExactValidRowRow.holds Try.pinned (OpenSpec.ofChange fnExactValidRowWrong)

/-- 'laws.FnExactSumsOf': WHATEVER THE INPUT: true; the input reads as it did. -/
def fnExactSumsOfSpec : ChangeSpec := { name := "fnExactSumsOf", fn := fun _ => fun
  | [d] => { results := [.lit (.bool true)], args := [d] }
  | _ => none }
def fnExactSumsOfRow : OpenClaim := { program := "ytdlmkcaecadcoaa", sum := "c94b5d890d71d1d767a7bb252a6c69d63bb9f6565586078386d649c066b318ff", func := "loop.example/wholewaves/laws.FnExactSumsOf", spec := "fnExactSumsOf", apart := false }
def FnExactSumsOfSaid : Prop := fnExactSumsOfRow.holds Try.pinned (OpenSpec.ofChange fnExactSumsOfSpec)

/-- ITS FALSE NEIGHBOUR: 'it returns false'. Refute it at one input. -/
def fnExactSumsOfWrong : ChangeSpec := { name := "fnExactSumsOf", fn := fun _ => fun
  | [d] => { results := [.lit (.bool false)], args := [d] }
  | _ => none }
def FnExactSumsOfWrongFalsely : Prop := fnExactSumsOfRow.holds Try.pinned (OpenSpec.ofChange fnExactSumsOfWrong)

/-- 'laws.FnExactStepsOf': WHATEVER THE INPUT: true; the input reads as it did. -/
def fnExactStepsOfSpec : ChangeSpec := { name := "fnExactStepsOf", fn := fun _ => fun
  | [d] => { results := [.lit (.bool true)], args := [d] }
  | _ => none }
def fnExactStepsOfRow : OpenClaim := { program := "ytdlmkcaecadcoaa", sum := "c94b5d890d71d1d767a7bb252a6c69d63bb9f6565586078386d649c066b318ff", func := "loop.example/wholewaves/laws.FnExactStepsOf", spec := "fnExactStepsOf", apart := false }
def FnExactStepsOfSaid : Prop := fnExactStepsOfRow.holds Try.pinned (OpenSpec.ofChange fnExactStepsOfSpec)

/-- ITS FALSE NEIGHBOUR: 'it returns false'. Refute it at one input. -/
def fnExactStepsOfWrong : ChangeSpec := { name := "fnExactStepsOf", fn := fun _ => fun
  | [d] => { results := [.lit (.bool false)], args := [d] }
  | _ => none }
def FnExactStepsOfWrongFalsely : Prop := fnExactStepsOfRow.holds Try.pinned (OpenSpec.ofChange fnExactStepsOfWrong)

/-- 'laws.FnExactEdgeOf': WHATEVER THE INPUT: true; the input reads as it did. -/
def fnExactEdgeOfSpec : ChangeSpec := { name := "fnExactEdgeOf", fn := fun _ => fun
  | [d] => { results := [.lit (.bool true)], args := [d] }
  | _ => none }
def fnExactEdgeOfRow : OpenClaim := { program := "ytdlmkcaecadcoaa", sum := "c94b5d890d71d1d767a7bb252a6c69d63bb9f6565586078386d649c066b318ff", func := "loop.example/wholewaves/laws.FnExactEdgeOf", spec := "fnExactEdgeOf", apart := false }
def FnExactEdgeOfSaid : Prop := fnExactEdgeOfRow.holds Try.pinned (OpenSpec.ofChange fnExactEdgeOfSpec)

/-- ITS FALSE NEIGHBOUR: 'it returns false'. Refute it at one input. -/
def fnExactEdgeOfWrong : ChangeSpec := { name := "fnExactEdgeOf", fn := fun _ => fun
  | [d] => { results := [.lit (.bool false)], args := [d] }
  | _ => none }
def FnExactEdgeOfWrongFalsely : Prop := fnExactEdgeOfRow.holds Try.pinned (OpenSpec.ofChange fnExactEdgeOfWrong)

/-- 'laws.FnExactFromEdge': WHATEVER THE INPUT: true; the input reads as it did. -/
def fnExactFromEdgeSpec : ChangeSpec := { name := "fnExactFromEdge", fn := fun _ => fun
  | [d] => { results := [.lit (.bool true)], args := [d] }
  | _ => none }
def fnExactFromEdgeRow : OpenClaim := { program := "ytdlmkcaecadcoaa", sum := "c94b5d890d71d1d767a7bb252a6c69d63bb9f6565586078386d649c066b318ff", func := "loop.example/wholewaves/laws.FnExactFromEdge", spec := "fnExactFromEdge", apart := false }
def FnExactFromEdgeSaid : Prop := fnExactFromEdgeRow.holds Try.pinned (OpenSpec.ofChange fnExactFromEdgeSpec)

/-- ITS FALSE NEIGHBOUR: 'it returns false'. Refute it at one input. -/
def fnExactFromEdgeWrong : ChangeSpec := { name := "fnExactFromEdge", fn := fun _ => fun
  | [d] => { results := [.lit (.bool false)], args := [d] }
  | _ => none }
def FnExactFromEdgeWrongFalsely : Prop := fnExactFromEdgeRow.holds Try.pinned (OpenSpec.ofChange fnExactFromEdgeWrong)

/-- 'laws.FnExactDegreeOf': WHATEVER THE INPUT: true; the input reads as it did. -/
def fnExactDegreeOfSpec : ChangeSpec := { name := "fnExactDegreeOf", fn := fun _ => fun
  | [d] => { results := [.lit (.bool true)], args := [d] }
  | _ => none }
def fnExactDegreeOfRow : OpenClaim := { program := "ytdlmkcaecadcoaa", sum := "c94b5d890d71d1d767a7bb252a6c69d63bb9f6565586078386d649c066b318ff", func := "loop.example/wholewaves/laws.FnExactDegreeOf", spec := "fnExactDegreeOf", apart := false }
def FnExactDegreeOfSaid : Prop := fnExactDegreeOfRow.holds Try.pinned (OpenSpec.ofChange fnExactDegreeOfSpec)

/-- ITS FALSE NEIGHBOUR: 'it returns false'. Refute it at one input. -/
def fnExactDegreeOfWrong : ChangeSpec := { name := "fnExactDegreeOf", fn := fun _ => fun
  | [d] => { results := [.lit (.bool false)], args := [d] }
  | _ => none }
def FnExactDegreeOfWrongFalsely : Prop := fnExactDegreeOfRow.holds Try.pinned (OpenSpec.ofChange fnExactDegreeOfWrong)

/-- 'laws.FnExactDivisorSums': WHATEVER THE INPUT: true; the input reads as it did. -/
def fnExactDivisorSumsSpec : ChangeSpec := { name := "fnExactDivisorSums", fn := fun _ => fun
  | [d] => { results := [.lit (.bool true)], args := [d] }
  | _ => none }
def fnExactDivisorSumsRow : OpenClaim := { program := "ytdlmkcaecadcoaa", sum := "c94b5d890d71d1d767a7bb252a6c69d63bb9f6565586078386d649c066b318ff", func := "loop.example/wholewaves/laws.FnExactDivisorSums", spec := "fnExactDivisorSums", apart := false }
def FnExactDivisorSumsSaid : Prop := fnExactDivisorSumsRow.holds Try.pinned (OpenSpec.ofChange fnExactDivisorSumsSpec)

/-- ITS FALSE NEIGHBOUR: 'it returns false'. Refute it at one input. -/
def fnExactDivisorSumsWrong : ChangeSpec := { name := "fnExactDivisorSums", fn := fun _ => fun
  | [d] => { results := [.lit (.bool false)], args := [d] }
  | _ => none }
def FnExactDivisorSumsWrongFalsely : Prop := fnExactDivisorSumsRow.holds Try.pinned (OpenSpec.ofChange fnExactDivisorSumsWrong)

/-- 'laws.FnExactUndivisorSums': WHATEVER THE INPUT: true; the input reads as it did. -/
def fnExactUndivisorSumsSpec : ChangeSpec := { name := "fnExactUndivisorSums", fn := fun _ => fun
  | [d] => { results := [.lit (.bool true)], args := [d] }
  | _ => none }
def fnExactUndivisorSumsRow : OpenClaim := { program := "ytdlmkcaecadcoaa", sum := "c94b5d890d71d1d767a7bb252a6c69d63bb9f6565586078386d649c066b318ff", func := "loop.example/wholewaves/laws.FnExactUndivisorSums", spec := "fnExactUndivisorSums", apart := false }
def FnExactUndivisorSumsSaid : Prop := fnExactUndivisorSumsRow.holds Try.pinned (OpenSpec.ofChange fnExactUndivisorSumsSpec)

/-- ITS FALSE NEIGHBOUR: 'it returns false'. Refute it at one input. -/
def fnExactUndivisorSumsWrong : ChangeSpec := { name := "fnExactUndivisorSums", fn := fun _ => fun
  | [d] => { results := [.lit (.bool false)], args := [d] }
  | _ => none }
def FnExactUndivisorSumsWrongFalsely : Prop := fnExactUndivisorSumsRow.holds Try.pinned (OpenSpec.ofChange fnExactUndivisorSumsWrong)

/-- 'laws.FnExactEnergyOf': WHATEVER THE INPUT: true; the input reads as it did. -/
def fnExactEnergyOfSpec : ChangeSpec := { name := "fnExactEnergyOf", fn := fun _ => fun
  | [d] => { results := [.lit (.bool true)], args := [d] }
  | _ => none }
def fnExactEnergyOfRow : OpenClaim := { program := "ytdlmkcaecadcoaa", sum := "c94b5d890d71d1d767a7bb252a6c69d63bb9f6565586078386d649c066b318ff", func := "loop.example/wholewaves/laws.FnExactEnergyOf", spec := "fnExactEnergyOf", apart := false }
def FnExactEnergyOfSaid : Prop := fnExactEnergyOfRow.holds Try.pinned (OpenSpec.ofChange fnExactEnergyOfSpec)

/-- ITS FALSE NEIGHBOUR: 'it returns false'. Refute it at one input. -/
def fnExactEnergyOfWrong : ChangeSpec := { name := "fnExactEnergyOf", fn := fun _ => fun
  | [d] => { results := [.lit (.bool false)], args := [d] }
  | _ => none }
def FnExactEnergyOfWrongFalsely : Prop := fnExactEnergyOfRow.holds Try.pinned (OpenSpec.ofChange fnExactEnergyOfWrong)

/-- 'laws.FnExactDropSmall': WHATEVER THE INPUT: true; the input reads as it did. -/
def fnExactDropSmallSpec : ChangeSpec := { name := "fnExactDropSmall", fn := fun _ => fun
  | [d1, d2] => { results := [.lit (.bool true)], args := [d1, d2] }
  | _ => none }
def fnExactDropSmallRow : OpenClaim := { program := "ytdlmkcaecadcoaa", sum := "c94b5d890d71d1d767a7bb252a6c69d63bb9f6565586078386d649c066b318ff", func := "loop.example/wholewaves/laws.FnExactDropSmall", spec := "fnExactDropSmall", apart := false }
def FnExactDropSmallSaid : Prop := fnExactDropSmallRow.holds Try.pinned (OpenSpec.ofChange fnExactDropSmallSpec)

/-- ITS FALSE NEIGHBOUR: 'it returns false'. Refute it at one input. -/
def fnExactDropSmallWrong : ChangeSpec := { name := "fnExactDropSmall", fn := fun _ => fun
  | [d1, d2] => { results := [.lit (.bool false)], args := [d1, d2] }
  | _ => none }
def FnExactDropSmallWrongFalsely : Prop := fnExactDropSmallRow.holds Try.pinned (OpenSpec.ofChange fnExactDropSmallWrong)

/-- 'laws.FnExactBoxSums': WHATEVER THE INPUT: true; the input reads as it did. -/
def fnExactBoxSumsSpec : ChangeSpec := { name := "fnExactBoxSums", fn := fun _ => fun
  | [d1, d2] => { results := [.lit (.bool true)], args := [d1, d2] }
  | _ => none }
def fnExactBoxSumsRow : OpenClaim := { program := "ytdlmkcaecadcoaa", sum := "c94b5d890d71d1d767a7bb252a6c69d63bb9f6565586078386d649c066b318ff", func := "loop.example/wholewaves/laws.FnExactBoxSums", spec := "fnExactBoxSums", apart := false }
def FnExactBoxSumsSaid : Prop := fnExactBoxSumsRow.holds Try.pinned (OpenSpec.ofChange fnExactBoxSumsSpec)

/-- ITS FALSE NEIGHBOUR: 'it returns false'. Refute it at one input. -/
def fnExactBoxSumsWrong : ChangeSpec := { name := "fnExactBoxSums", fn := fun _ => fun
  | [d1, d2] => { results := [.lit (.bool false)], args := [d1, d2] }
  | _ => none }
def FnExactBoxSumsWrongFalsely : Prop := fnExactBoxSumsRow.holds Try.pinned (OpenSpec.ofChange fnExactBoxSumsWrong)

/-- 'laws.FnExactSelfOf': WHATEVER THE INPUT: true; the input reads as it did. -/
def fnExactSelfOfSpec : ChangeSpec := { name := "fnExactSelfOf", fn := fun _ => fun
  | [d] => { results := [.lit (.bool true)], args := [d] }
  | _ => none }
def fnExactSelfOfRow : OpenClaim := { program := "ytdlmkcaecadcoaa", sum := "c94b5d890d71d1d767a7bb252a6c69d63bb9f6565586078386d649c066b318ff", func := "loop.example/wholewaves/laws.FnExactSelfOf", spec := "fnExactSelfOf", apart := false }
def FnExactSelfOfSaid : Prop := fnExactSelfOfRow.holds Try.pinned (OpenSpec.ofChange fnExactSelfOfSpec)

/-- ITS FALSE NEIGHBOUR: 'it returns false'. Refute it at one input. -/
def fnExactSelfOfWrong : ChangeSpec := { name := "fnExactSelfOf", fn := fun _ => fun
  | [d] => { results := [.lit (.bool false)], args := [d] }
  | _ => none }
def FnExactSelfOfWrongFalsely : Prop := fnExactSelfOfRow.holds Try.pinned (OpenSpec.ofChange fnExactSelfOfWrong)

/- THE SECOND FORM. 'bulk': how many values and letters a reading holds, each counted each time it is reached (what is shared counts as often as it is met; a slice's spare places count too). A statement '..UptoSaid' is the law's where the arguments, and the package variables that the reading takes, are together of bulk at most 1048576: NARROWER than '..Said'. Prove '..Said' where nothing that the law and all that it calls make is longer than what came in: it says more and counts as full. Else prove '..UptoSaid'. A law counts once. -/
mutual
def uptoBulk {H : Type} : DataW H → Nat
  | .lit (.string bytes) => bytes.length + 1
  | .lit _ => 1
  | .nil => 1
  | .ptr d => uptoBulk d + 1
  | .slice elems spare => uptoBulkAll elems + uptoBulkAll spare + 1
  | .agg parts => uptoBulkAll parts + 1
  | .iface _ d => uptoBulk d + 1
  | .map entries => uptoBulkEntries entries + 1
  | .held _ => 1
def uptoBulkAll {H : Type} : List (DataW H) → Nat
  | [] => 0
  | d :: r => uptoBulk d + uptoBulkAll r
def uptoBulkEntries {H : Type} : List (Lit × DataW H) → Nat
  | [] => 0
  | x :: r => uptoBulkEntry x + uptoBulkEntries r
def uptoBulkEntry {H : Type} : Lit × DataW H → Nat
  | (.string bytes, d) => bytes.length + uptoBulk d + 1
  | (_, d) => uptoBulk d + 1
 end
def uptoSmall : (H : Type) → List (DataW H) → Bool := fun _ ds => decide (uptoBulkAll ds ≤ 1048576)
def OpenSpec.upto (s : _root_.Go.ChangeSpec) : _root_.Go.OpenSpec := { _root_.Go.OpenSpec.ofChange s with cond := some uptoSmall }

/-- 'laws.FnExactValidRow', WHERE WHAT IT READS IS OF BULK AT MOST 1048576: true; the input reads as it did. -/
def fnExactValidRowUptoRow : OpenClaim := { program := "ytdlmkcaecadcoaa", sum := "c94b5d890d71d1d767a7bb252a6c69d63bb9f6565586078386d649c066b318ff", func := "loop.example/wholewaves/laws.FnExactValidRow", spec := "fnExactValidRow", apart := false, narrowed := true }
def FnExactValidRowUptoSaid : Prop := fnExactValidRowUptoRow.holds Try.pinned (OpenSpec.upto fnExactValidRowSpec)

/-- 'laws.FnExactSumsOf', WHERE WHAT IT READS IS OF BULK AT MOST 1048576: true; the input reads as it did. -/
def fnExactSumsOfUptoRow : OpenClaim := { program := "ytdlmkcaecadcoaa", sum := "c94b5d890d71d1d767a7bb252a6c69d63bb9f6565586078386d649c066b318ff", func := "loop.example/wholewaves/laws.FnExactSumsOf", spec := "fnExactSumsOf", apart := false, narrowed := true }
def FnExactSumsOfUptoSaid : Prop := fnExactSumsOfUptoRow.holds Try.pinned (OpenSpec.upto fnExactSumsOfSpec)

/-- 'laws.FnExactStepsOf', WHERE WHAT IT READS IS OF BULK AT MOST 1048576: true; the input reads as it did. -/
def fnExactStepsOfUptoRow : OpenClaim := { program := "ytdlmkcaecadcoaa", sum := "c94b5d890d71d1d767a7bb252a6c69d63bb9f6565586078386d649c066b318ff", func := "loop.example/wholewaves/laws.FnExactStepsOf", spec := "fnExactStepsOf", apart := false, narrowed := true }
def FnExactStepsOfUptoSaid : Prop := fnExactStepsOfUptoRow.holds Try.pinned (OpenSpec.upto fnExactStepsOfSpec)

/-- 'laws.FnExactEdgeOf', WHERE WHAT IT READS IS OF BULK AT MOST 1048576: true; the input reads as it did. -/
def fnExactEdgeOfUptoRow : OpenClaim := { program := "ytdlmkcaecadcoaa", sum := "c94b5d890d71d1d767a7bb252a6c69d63bb9f6565586078386d649c066b318ff", func := "loop.example/wholewaves/laws.FnExactEdgeOf", spec := "fnExactEdgeOf", apart := false, narrowed := true }
def FnExactEdgeOfUptoSaid : Prop := fnExactEdgeOfUptoRow.holds Try.pinned (OpenSpec.upto fnExactEdgeOfSpec)

/-- 'laws.FnExactFromEdge', WHERE WHAT IT READS IS OF BULK AT MOST 1048576: true; the input reads as it did. -/
def fnExactFromEdgeUptoRow : OpenClaim := { program := "ytdlmkcaecadcoaa", sum := "c94b5d890d71d1d767a7bb252a6c69d63bb9f6565586078386d649c066b318ff", func := "loop.example/wholewaves/laws.FnExactFromEdge", spec := "fnExactFromEdge", apart := false, narrowed := true }
def FnExactFromEdgeUptoSaid : Prop := fnExactFromEdgeUptoRow.holds Try.pinned (OpenSpec.upto fnExactFromEdgeSpec)

/-- 'laws.FnExactDegreeOf', WHERE WHAT IT READS IS OF BULK AT MOST 1048576: true; the input reads as it did. -/
def fnExactDegreeOfUptoRow : OpenClaim := { program := "ytdlmkcaecadcoaa", sum := "c94b5d890d71d1d767a7bb252a6c69d63bb9f6565586078386d649c066b318ff", func := "loop.example/wholewaves/laws.FnExactDegreeOf", spec := "fnExactDegreeOf", apart := false, narrowed := true }
def FnExactDegreeOfUptoSaid : Prop := fnExactDegreeOfUptoRow.holds Try.pinned (OpenSpec.upto fnExactDegreeOfSpec)

/-- 'laws.FnExactDivisorSums', WHERE WHAT IT READS IS OF BULK AT MOST 1048576: true; the input reads as it did. -/
def fnExactDivisorSumsUptoRow : OpenClaim := { program := "ytdlmkcaecadcoaa", sum := "c94b5d890d71d1d767a7bb252a6c69d63bb9f6565586078386d649c066b318ff", func := "loop.example/wholewaves/laws.FnExactDivisorSums", spec := "fnExactDivisorSums", apart := false, narrowed := true }
def FnExactDivisorSumsUptoSaid : Prop := fnExactDivisorSumsUptoRow.holds Try.pinned (OpenSpec.upto fnExactDivisorSumsSpec)

/-- 'laws.FnExactUndivisorSums', WHERE WHAT IT READS IS OF BULK AT MOST 1048576: true; the input reads as it did. -/
def fnExactUndivisorSumsUptoRow : OpenClaim := { program := "ytdlmkcaecadcoaa", sum := "c94b5d890d71d1d767a7bb252a6c69d63bb9f6565586078386d649c066b318ff", func := "loop.example/wholewaves/laws.FnExactUndivisorSums", spec := "fnExactUndivisorSums", apart := false, narrowed := true }
def FnExactUndivisorSumsUptoSaid : Prop := fnExactUndivisorSumsUptoRow.holds Try.pinned (OpenSpec.upto fnExactUndivisorSumsSpec)

/-- 'laws.FnExactEnergyOf', WHERE WHAT IT READS IS OF BULK AT MOST 1048576: true; the input reads as it did. -/
def fnExactEnergyOfUptoRow : OpenClaim := { program := "ytdlmkcaecadcoaa", sum := "c94b5d890d71d1d767a7bb252a6c69d63bb9f6565586078386d649c066b318ff", func := "loop.example/wholewaves/laws.FnExactEnergyOf", spec := "fnExactEnergyOf", apart := false, narrowed := true }
def FnExactEnergyOfUptoSaid : Prop := fnExactEnergyOfUptoRow.holds Try.pinned (OpenSpec.upto fnExactEnergyOfSpec)

/-- 'laws.FnExactDropSmall', WHERE WHAT IT READS IS OF BULK AT MOST 1048576: true; the input reads as it did. -/
def fnExactDropSmallUptoRow : OpenClaim := { program := "ytdlmkcaecadcoaa", sum := "c94b5d890d71d1d767a7bb252a6c69d63bb9f6565586078386d649c066b318ff", func := "loop.example/wholewaves/laws.FnExactDropSmall", spec := "fnExactDropSmall", apart := false, narrowed := true }
def FnExactDropSmallUptoSaid : Prop := fnExactDropSmallUptoRow.holds Try.pinned (OpenSpec.upto fnExactDropSmallSpec)

/-- 'laws.FnExactBoxSums', WHERE WHAT IT READS IS OF BULK AT MOST 1048576: true; the input reads as it did. -/
def fnExactBoxSumsUptoRow : OpenClaim := { program := "ytdlmkcaecadcoaa", sum := "c94b5d890d71d1d767a7bb252a6c69d63bb9f6565586078386d649c066b318ff", func := "loop.example/wholewaves/laws.FnExactBoxSums", spec := "fnExactBoxSums", apart := false, narrowed := true }
def FnExactBoxSumsUptoSaid : Prop := fnExactBoxSumsUptoRow.holds Try.pinned (OpenSpec.upto fnExactBoxSumsSpec)

/-- 'laws.FnExactSelfOf', WHERE WHAT IT READS IS OF BULK AT MOST 1048576: true; the input reads as it did. -/
def fnExactSelfOfUptoRow : OpenClaim := { program := "ytdlmkcaecadcoaa", sum := "c94b5d890d71d1d767a7bb252a6c69d63bb9f6565586078386d649c066b318ff", func := "loop.example/wholewaves/laws.FnExactSelfOf", spec := "fnExactSelfOf", apart := false, narrowed := true }
def FnExactSelfOfUptoSaid : Prop := fnExactSelfOfUptoRow.holds Try.pinned (OpenSpec.upto fnExactSelfOfSpec)

end Rows
end Go.Proofs.Ytdlmkcaecadcoaa
