/-
  No cell of these rows narrows 'for every input' (looked for: loops, veiled, ifaces, maps, wideKeys, modest, calm, conditions, laid).
  DERIVED. THE GIVEN ROWS OF THIS SEAT. 5 by the template 'for every input the law returns true; each argument reads behind the call as it read before'; 0 by the template 'total and deterministic' (their statements: YtnjnniaiajejeaaTotals.lean).
  GIVEN WITH THE SEED: the statements are not yours to turn. If you find one false, say at which input.
  Laid BY PROGRAM, IN A SANDBOX (cutbox-rows.mjs): the forced cells as the released guide's own fill.sh prints them over the translation 56f48f15d5efa8a8… (all of the seat's roots in one cut). By AI agents, Wed Nov 11 2026. No macro, syntax, notation, axiom, sorry.
-/
import Derived.Test.YtnjnniaiajejeaaChecked
import GoSem.Claim
import GoSem.ClaimJoined
import GoSem.ClaimMapViews
import Derived.JoinedTies
import Derived.KernelRfl
namespace Go.Proofs.Ytnjnniaiajejeaa
/- THE CELL 'sum', in the pinned program and in every row, IS THE sha256 OF THE DUMP (.gsa) THAT YtnjnniaiajejeaaProg.lean LOADS. Nothing in Lean hashes anything: it is a label: what it is worth is what the hold of that sum in a sandbox is worth. -/
noncomputable def Try.pinned : Pinned := { name := "ytnjnniaiajejeaa", sum := "56f48f15d5efa8a8f7e57a03e597aae950e8a78127b1d6082af052c90e734194", checked := Try.checked }
namespace Rows
def none {H : Type} : Left H := { results := [], args := [] }

/-- 'laws.FnDivisorSums': WHATEVER THE INPUT: true; the input reads as it did. -/
def fnDivisorSumsSpec : ChangeSpec := { name := "fnDivisorSums", fn := fun _ => fun
  | [d] => { results := [.lit (.bool true)], args := [d] }
  | _ => none }
def fnDivisorSumsRow : OpenClaim := { program := "ytnjnniaiajejeaa", sum := "56f48f15d5efa8a8f7e57a03e597aae950e8a78127b1d6082af052c90e734194", func := "loop.example/wholewaves/laws.FnDivisorSums", spec := "fnDivisorSums", apart := false }
def FnDivisorSumsSaid : Prop := fnDivisorSumsRow.holds Try.pinned (OpenSpec.ofChange fnDivisorSumsSpec)

/-- ITS FALSE NEIGHBOUR: 'it returns false'. Refute it at one input. -/
def fnDivisorSumsWrong : ChangeSpec := { name := "fnDivisorSums", fn := fun _ => fun
  | [d] => { results := [.lit (.bool false)], args := [d] }
  | _ => none }
def FnDivisorSumsWrongFalsely : Prop := fnDivisorSumsRow.holds Try.pinned (OpenSpec.ofChange fnDivisorSumsWrong)

/-- 'laws.FnUndivisorSums': WHATEVER THE INPUT: true; the input reads as it did. -/
def fnUndivisorSumsSpec : ChangeSpec := { name := "fnUndivisorSums", fn := fun _ => fun
  | [d] => { results := [.lit (.bool true)], args := [d] }
  | _ => none }
def fnUndivisorSumsRow : OpenClaim := { program := "ytnjnniaiajejeaa", sum := "56f48f15d5efa8a8f7e57a03e597aae950e8a78127b1d6082af052c90e734194", func := "loop.example/wholewaves/laws.FnUndivisorSums", spec := "fnUndivisorSums", apart := false }
def FnUndivisorSumsSaid : Prop := fnUndivisorSumsRow.holds Try.pinned (OpenSpec.ofChange fnUndivisorSumsSpec)

/-- ITS FALSE NEIGHBOUR: 'it returns false'. Refute it at one input. -/
def fnUndivisorSumsWrong : ChangeSpec := { name := "fnUndivisorSums", fn := fun _ => fun
  | [d] => { results := [.lit (.bool false)], args := [d] }
  | _ => none }
def FnUndivisorSumsWrongFalsely : Prop := fnUndivisorSumsRow.holds Try.pinned (OpenSpec.ofChange fnUndivisorSumsWrong)

/-- 'laws.FnValidRow': WHATEVER THE INPUT: true; the input reads as it did. -/
def fnValidRowSpec : ChangeSpec := { name := "fnValidRow", fn := fun _ => fun
  | [d] => { results := [.lit (.bool true)], args := [d] }
  | _ => none }
def fnValidRowRow : OpenClaim := { program := "ytnjnniaiajejeaa", sum := "56f48f15d5efa8a8f7e57a03e597aae950e8a78127b1d6082af052c90e734194", func := "loop.example/wholewaves/laws.FnValidRow", spec := "fnValidRow", apart := false }
def FnValidRowSaid : Prop := fnValidRowRow.holds Try.pinned (OpenSpec.ofChange fnValidRowSpec)

/-- ITS FALSE NEIGHBOUR: 'it returns false'. Refute it at one input. -/
def fnValidRowWrong : ChangeSpec := { name := "fnValidRow", fn := fun _ => fun
  | [d] => { results := [.lit (.bool false)], args := [d] }
  | _ => none }
def FnValidRowWrongFalsely : Prop := fnValidRowRow.holds Try.pinned (OpenSpec.ofChange fnValidRowWrong)

/-- 'laws.FnEnergyOf': WHATEVER THE INPUT: true; the input reads as it did. -/
def fnEnergyOfSpec : ChangeSpec := { name := "fnEnergyOf", fn := fun _ => fun
  | [d] => { results := [.lit (.bool true)], args := [d] }
  | _ => none }
def fnEnergyOfRow : OpenClaim := { program := "ytnjnniaiajejeaa", sum := "56f48f15d5efa8a8f7e57a03e597aae950e8a78127b1d6082af052c90e734194", func := "loop.example/wholewaves/laws.FnEnergyOf", spec := "fnEnergyOf", apart := false }
def FnEnergyOfSaid : Prop := fnEnergyOfRow.holds Try.pinned (OpenSpec.ofChange fnEnergyOfSpec)

/-- ITS FALSE NEIGHBOUR: 'it returns false'. Refute it at one input. -/
def fnEnergyOfWrong : ChangeSpec := { name := "fnEnergyOf", fn := fun _ => fun
  | [d] => { results := [.lit (.bool false)], args := [d] }
  | _ => none }
def FnEnergyOfWrongFalsely : Prop := fnEnergyOfRow.holds Try.pinned (OpenSpec.ofChange fnEnergyOfWrong)

/-- 'laws.FnDropSmall': WHATEVER THE INPUT: true; the input reads as it did. -/
def fnDropSmallSpec : ChangeSpec := { name := "fnDropSmall", fn := fun _ => fun
  | [d] => { results := [.lit (.bool true)], args := [d] }
  | _ => none }
def fnDropSmallRow : OpenClaim := { program := "ytnjnniaiajejeaa", sum := "56f48f15d5efa8a8f7e57a03e597aae950e8a78127b1d6082af052c90e734194", func := "loop.example/wholewaves/laws.FnDropSmall", spec := "fnDropSmall", apart := false }
def FnDropSmallSaid : Prop := fnDropSmallRow.holds Try.pinned (OpenSpec.ofChange fnDropSmallSpec)

/-- ITS FALSE NEIGHBOUR: 'it returns false'. Refute it at one input. -/
def fnDropSmallWrong : ChangeSpec := { name := "fnDropSmall", fn := fun _ => fun
  | [d] => { results := [.lit (.bool false)], args := [d] }
  | _ => none }
def FnDropSmallWrongFalsely : Prop := fnDropSmallRow.holds Try.pinned (OpenSpec.ofChange fnDropSmallWrong)

/- THE SECOND FORM. 'bulk': how many values and letters a reading holds, each counted each time it is reached (what is shared counts as often as it is met; a slice's spare places count too). A statement '..UptoSaid' is the law's where the arguments, and the package variables that the reading takes, are together of bulk at most 1048576: NARROWER than '..Said'. Prove '..Said' where nothing that the law and all that it calls make is longer than what came in: it says more and counts as full. Else prove '..UptoSaid'. A law counts once. -/
mutual
def uptoBulk {H : Type} : DataW H → Nat
  | .lit (.string bytes) => bytes.length + 1
  | .lit _ => 1
  | .nil => 1
  | .ptr d => uptoBulk d + 1
  | .slice elems spare => uptoBulkAll elems + uptoBulkAll spare + 1
  | .agg parts => uptoBulkAll parts + 1
  | .iface _ d => uptoBulk d + 1
  | .map entries => uptoBulkEntries entries + 1
  | .held _ => 1
def uptoBulkAll {H : Type} : List (DataW H) → Nat
  | [] => 0
  | d :: r => uptoBulk d + uptoBulkAll r
def uptoBulkEntries {H : Type} : List (Lit × DataW H) → Nat
  | [] => 0
  | x :: r => uptoBulkEntry x + uptoBulkEntries r
def uptoBulkEntry {H : Type} : Lit × DataW H → Nat
  | (.string bytes, d) => bytes.length + uptoBulk d + 1
  | (_, d) => uptoBulk d + 1
 end
def uptoSmall : (H : Type) → List (DataW H) → Bool := fun _ ds => decide (uptoBulkAll ds ≤ 1048576)
def OpenSpec.upto (s : _root_.Go.ChangeSpec) : _root_.Go.OpenSpec := { _root_.Go.OpenSpec.ofChange s with cond := some uptoSmall }

/-- 'laws.FnDivisorSums', WHERE WHAT IT READS IS OF BULK AT MOST 1048576: true; the input reads as it did. -/
def fnDivisorSumsUptoRow : OpenClaim := { program := "ytnjnniaiajejeaa", sum := "56f48f15d5efa8a8f7e57a03e597aae950e8a78127b1d6082af052c90e734194", func := "loop.example/wholewaves/laws.FnDivisorSums", spec := "fnDivisorSums", apart := false, narrowed := true }
def FnDivisorSumsUptoSaid : Prop := fnDivisorSumsUptoRow.holds Try.pinned (OpenSpec.upto fnDivisorSumsSpec)

/-- 'laws.FnUndivisorSums', WHERE WHAT IT READS IS OF BULK AT MOST 1048576: true; the input reads as it did. -/
def fnUndivisorSumsUptoRow : OpenClaim := { program := "ytnjnniaiajejeaa", sum := "56f48f15d5efa8a8f7e57a03e597aae950e8a78127b1d6082af052c90e734194", func := "loop.example/wholewaves/laws.FnUndivisorSums", spec := "fnUndivisorSums", apart := false, narrowed := true }
def FnUndivisorSumsUptoSaid : Prop := fnUndivisorSumsUptoRow.holds Try.pinned (OpenSpec.upto fnUndivisorSumsSpec)

/-- 'laws.FnValidRow', WHERE WHAT IT READS IS OF BULK AT MOST 1048576: true; the input reads as it did. -/
def fnValidRowUptoRow : OpenClaim := { program := "ytnjnniaiajejeaa", sum := "56f48f15d5efa8a8f7e57a03e597aae950e8a78127b1d6082af052c90e734194", func := "loop.example/wholewaves/laws.FnValidRow", spec := "fnValidRow", apart := false, narrowed := true }
def FnValidRowUptoSaid : Prop := fnValidRowUptoRow.holds Try.pinned (OpenSpec.upto fnValidRowSpec)

/-- 'laws.FnEnergyOf', WHERE WHAT IT READS IS OF BULK AT MOST 1048576: true; the input reads as it did. -/
def fnEnergyOfUptoRow : OpenClaim := { program := "ytnjnniaiajejeaa", sum := "56f48f15d5efa8a8f7e57a03e597aae950e8a78127b1d6082af052c90e734194", func := "loop.example/wholewaves/laws.FnEnergyOf", spec := "fnEnergyOf", apart := false, narrowed := true }
def FnEnergyOfUptoSaid : Prop := fnEnergyOfUptoRow.holds Try.pinned (OpenSpec.upto fnEnergyOfSpec)

/-- 'laws.FnDropSmall', WHERE WHAT IT READS IS OF BULK AT MOST 1048576: true; the input reads as it did. -/
def fnDropSmallUptoRow : OpenClaim := { program := "ytnjnniaiajejeaa", sum := "56f48f15d5efa8a8f7e57a03e597aae950e8a78127b1d6082af052c90e734194", func := "loop.example/wholewaves/laws.FnDropSmall", spec := "fnDropSmall", apart := false, narrowed := true }
def FnDropSmallUptoSaid : Prop := fnDropSmallUptoRow.holds Try.pinned (OpenSpec.upto fnDropSmallSpec)

end Rows
end Go.Proofs.Ytnjnniaiajejeaa
