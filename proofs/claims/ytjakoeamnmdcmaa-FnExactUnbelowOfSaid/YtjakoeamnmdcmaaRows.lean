/-
  No cell of these rows narrows 'for every input' (looked for: loops, veiled, ifaces, maps, wideKeys, modest, calm, conditions, laid).
  DERIVED. THE GIVEN ROWS OF THIS SEAT. 7 by the template 'for every input the law returns true; each argument reads behind the call as it read before'; 0 by the template 'total and deterministic' (their statements: YtjakoeamnmdcmaaTotals.lean).
  GIVEN WITH THE SEED: the statements are not yours to turn. If you find one false, say at which input.
  Laid BY PROGRAM, IN A SANDBOX (cutbox-rows.mjs): the forced cells as the released guide's own fill.sh prints them over the translation bd1340da57eadb37… (all of the seat's roots in one cut). By AI agents, Wed Nov 11 2026. No macro, syntax, notation, axiom, sorry.
-/
import Derived.Test.YtjakoeamnmdcmaaChecked
import GoSem.Claim
import GoSem.ClaimJoined
import GoSem.ClaimMapViews
import Derived.JoinedTies
import Derived.KernelRfl
namespace Go.Proofs.Ytjakoeamnmdcmaa
/- THE CELL 'sum', in the pinned program and in every row, IS THE sha256 OF THE DUMP (.gsa) THAT YtjakoeamnmdcmaaProg.lean LOADS. Nothing in Lean hashes anything: it is a label: what it is worth is what the hold of that sum in a sandbox is worth. -/
noncomputable def Try.pinned : Pinned := { name := "ytjakoeamnmdcmaa", sum := "bd1340da57eadb37b3c8f5a1d9c76f535c2a27f427f90438b71c1ce473816fa1", checked := Try.checked }
namespace Rows
def none {H : Type} : Left H := { results := [], args := [] }

/-- 'laws.FnExactTimesOf': WHATEVER THE INPUT: true; the input reads as it did. -/
def fnExactTimesOfSpec : ChangeSpec := { name := "fnExactTimesOf", fn := fun _ => fun
  | [d1, d2] => { results := [.lit (.bool true)], args := [d1, d2] }
  | _ => none }
def fnExactTimesOfRow : OpenClaim := { program := "ytjakoeamnmdcmaa", sum := "bd1340da57eadb37b3c8f5a1d9c76f535c2a27f427f90438b71c1ce473816fa1", func := "loop.example/wholewaves/laws.FnExactTimesOf", spec := "fnExactTimesOf", apart := false }
def FnExactTimesOfSaid : Prop := fnExactTimesOfRow.holds Try.pinned (OpenSpec.ofChange fnExactTimesOfSpec)

/-- ITS FALSE NEIGHBOUR: 'it returns false'. Refute it at one input. -/
def fnExactTimesOfWrong : ChangeSpec := { name := "fnExactTimesOf", fn := fun _ => fun
  | [d1, d2] => { results := [.lit (.bool false)], args := [d1, d2] }
  | _ => none }
def FnExactTimesOfWrongFalsely : Prop := fnExactTimesOfRow.holds Try.pinned (OpenSpec.ofChange fnExactTimesOfWrong)

/-- 'laws.FnExactIsQuiet': WHATEVER THE INPUT: true; the input reads as it did. -/
def fnExactIsQuietSpec : ChangeSpec := { name := "fnExactIsQuiet", fn := fun _ => fun
  | [d] => { results := [.lit (.bool true)], args := [d] }
  | _ => none }
def fnExactIsQuietRow : OpenClaim := { program := "ytjakoeamnmdcmaa", sum := "bd1340da57eadb37b3c8f5a1d9c76f535c2a27f427f90438b71c1ce473816fa1", func := "loop.example/wholewaves/laws.FnExactIsQuiet", spec := "fnExactIsQuiet", apart := false }
def FnExactIsQuietSaid : Prop := fnExactIsQuietRow.holds Try.pinned (OpenSpec.ofChange fnExactIsQuietSpec)

/-- ITS FALSE NEIGHBOUR: 'it returns false'. Refute it at one input. -/
def fnExactIsQuietWrong : ChangeSpec := { name := "fnExactIsQuiet", fn := fun _ => fun
  | [d] => { results := [.lit (.bool false)], args := [d] }
  | _ => none }
def FnExactIsQuietWrongFalsely : Prop := fnExactIsQuietRow.holds Try.pinned (OpenSpec.ofChange fnExactIsQuietWrong)

/-- 'laws.FnExactArePaired': WHATEVER THE INPUT: true; the input reads as it did. -/
def fnExactArePairedSpec : ChangeSpec := { name := "fnExactArePaired", fn := fun _ => fun
  | [d1, d2] => { results := [.lit (.bool true)], args := [d1, d2] }
  | _ => none }
def fnExactArePairedRow : OpenClaim := { program := "ytjakoeamnmdcmaa", sum := "bd1340da57eadb37b3c8f5a1d9c76f535c2a27f427f90438b71c1ce473816fa1", func := "loop.example/wholewaves/laws.FnExactArePaired", spec := "fnExactArePaired", apart := false }
def FnExactArePairedSaid : Prop := fnExactArePairedRow.holds Try.pinned (OpenSpec.ofChange fnExactArePairedSpec)

/-- ITS FALSE NEIGHBOUR: 'it returns false'. Refute it at one input. -/
def fnExactArePairedWrong : ChangeSpec := { name := "fnExactArePaired", fn := fun _ => fun
  | [d1, d2] => { results := [.lit (.bool false)], args := [d1, d2] }
  | _ => none }
def FnExactArePairedWrongFalsely : Prop := fnExactArePairedRow.holds Try.pinned (OpenSpec.ofChange fnExactArePairedWrong)

/-- 'laws.FnExactHalveOf': WHATEVER THE INPUT: true; the input reads as it did. -/
def fnExactHalveOfSpec : ChangeSpec := { name := "fnExactHalveOf", fn := fun _ => fun
  | [d] => { results := [.lit (.bool true)], args := [d] }
  | _ => none }
def fnExactHalveOfRow : OpenClaim := { program := "ytjakoeamnmdcmaa", sum := "bd1340da57eadb37b3c8f5a1d9c76f535c2a27f427f90438b71c1ce473816fa1", func := "loop.example/wholewaves/laws.FnExactHalveOf", spec := "fnExactHalveOf", apart := false }
def FnExactHalveOfSaid : Prop := fnExactHalveOfRow.holds Try.pinned (OpenSpec.ofChange fnExactHalveOfSpec)

/-- ITS FALSE NEIGHBOUR: 'it returns false'. Refute it at one input. -/
def fnExactHalveOfWrong : ChangeSpec := { name := "fnExactHalveOf", fn := fun _ => fun
  | [d] => { results := [.lit (.bool false)], args := [d] }
  | _ => none }
def FnExactHalveOfWrongFalsely : Prop := fnExactHalveOfRow.holds Try.pinned (OpenSpec.ofChange fnExactHalveOfWrong)

/-- 'laws.FnExactUnhalveOf': WHATEVER THE INPUT: true; the input reads as it did. -/
def fnExactUnhalveOfSpec : ChangeSpec := { name := "fnExactUnhalveOf", fn := fun _ => fun
  | [d] => { results := [.lit (.bool true)], args := [d] }
  | _ => none }
def fnExactUnhalveOfRow : OpenClaim := { program := "ytjakoeamnmdcmaa", sum := "bd1340da57eadb37b3c8f5a1d9c76f535c2a27f427f90438b71c1ce473816fa1", func := "loop.example/wholewaves/laws.FnExactUnhalveOf", spec := "fnExactUnhalveOf", apart := false }
def FnExactUnhalveOfSaid : Prop := fnExactUnhalveOfRow.holds Try.pinned (OpenSpec.ofChange fnExactUnhalveOfSpec)

/-- ITS FALSE NEIGHBOUR: 'it returns false'. Refute it at one input. -/
def fnExactUnhalveOfWrong : ChangeSpec := { name := "fnExactUnhalveOf", fn := fun _ => fun
  | [d] => { results := [.lit (.bool false)], args := [d] }
  | _ => none }
def FnExactUnhalveOfWrongFalsely : Prop := fnExactUnhalveOfRow.holds Try.pinned (OpenSpec.ofChange fnExactUnhalveOfWrong)

/-- 'laws.FnExactBelowOf': WHATEVER THE INPUT: true; the input reads as it did. -/
def fnExactBelowOfSpec : ChangeSpec := { name := "fnExactBelowOf", fn := fun _ => fun
  | [d] => { results := [.lit (.bool true)], args := [d] }
  | _ => none }
def fnExactBelowOfRow : OpenClaim := { program := "ytjakoeamnmdcmaa", sum := "bd1340da57eadb37b3c8f5a1d9c76f535c2a27f427f90438b71c1ce473816fa1", func := "loop.example/wholewaves/laws.FnExactBelowOf", spec := "fnExactBelowOf", apart := false }
def FnExactBelowOfSaid : Prop := fnExactBelowOfRow.holds Try.pinned (OpenSpec.ofChange fnExactBelowOfSpec)

/-- ITS FALSE NEIGHBOUR: 'it returns false'. Refute it at one input. -/
def fnExactBelowOfWrong : ChangeSpec := { name := "fnExactBelowOf", fn := fun _ => fun
  | [d] => { results := [.lit (.bool false)], args := [d] }
  | _ => none }
def FnExactBelowOfWrongFalsely : Prop := fnExactBelowOfRow.holds Try.pinned (OpenSpec.ofChange fnExactBelowOfWrong)

/-- 'laws.FnExactUnbelowOf': WHATEVER THE INPUT: true; the input reads as it did. -/
def fnExactUnbelowOfSpec : ChangeSpec := { name := "fnExactUnbelowOf", fn := fun _ => fun
  | [d] => { results := [.lit (.bool true)], args := [d] }
  | _ => none }
def fnExactUnbelowOfRow : OpenClaim := { program := "ytjakoeamnmdcmaa", sum := "bd1340da57eadb37b3c8f5a1d9c76f535c2a27f427f90438b71c1ce473816fa1", func := "loop.example/wholewaves/laws.FnExactUnbelowOf", spec := "fnExactUnbelowOf", apart := false }
def FnExactUnbelowOfSaid : Prop := fnExactUnbelowOfRow.holds Try.pinned (OpenSpec.ofChange fnExactUnbelowOfSpec)

/-- ITS FALSE NEIGHBOUR: 'it returns false'. Refute it at one input. -/
def fnExactUnbelowOfWrong : ChangeSpec := { name := "fnExactUnbelowOf", fn := fun _ => fun
  | [d] => { results := [.lit (.bool false)], args := [d] }
  | _ => none }
def FnExactUnbelowOfWrongFalsely : Prop := fnExactUnbelowOfRow.holds Try.pinned (OpenSpec.ofChange fnExactUnbelowOfWrong)

/- THE SECOND FORM. 'bulk': how many values and letters a reading holds, each counted each time it is reached (what is shared counts as often as it is met; a slice's spare places count too). A statement '..UptoSaid' is the law's where the arguments, and the package variables that the reading takes, are together of bulk at most 1048576: NARROWER than '..Said'. Prove '..Said' where nothing that the law and all that it calls make is longer than what came in: it says more and counts as full. Else prove '..UptoSaid'. A law counts once. -/
mutual
def uptoBulk {H : Type} : DataW H → Nat
  | .lit (.string bytes) => bytes.length + 1
  | .lit _ => 1
  | .nil => 1
  | .ptr d => uptoBulk d + 1
  | .slice elems spare => uptoBulkAll elems + uptoBulkAll spare + 1
  | .agg parts => uptoBulkAll parts + 1
  | .iface _ d => uptoBulk d + 1
  | .map entries => uptoBulkEntries entries + 1
  | .held _ => 1
def uptoBulkAll {H : Type} : List (DataW H) → Nat
  | [] => 0
  | d :: r => uptoBulk d + uptoBulkAll r
def uptoBulkEntries {H : Type} : List (Lit × DataW H) → Nat
  | [] => 0
  | x :: r => uptoBulkEntry x + uptoBulkEntries r
def uptoBulkEntry {H : Type} : Lit × DataW H → Nat
  | (.string bytes, d) => bytes.length + uptoBulk d + 1
  | (_, d) => uptoBulk d + 1
 end
def uptoSmall : (H : Type) → List (DataW H) → Bool := fun _ ds => decide (uptoBulkAll ds ≤ 1048576)
def OpenSpec.upto (s : _root_.Go.ChangeSpec) : _root_.Go.OpenSpec := { _root_.Go.OpenSpec.ofChange s with cond := some uptoSmall }

/-- 'laws.FnExactTimesOf', WHERE WHAT IT READS IS OF BULK AT MOST 1048576: true; the input reads as it did. -/
def fnExactTimesOfUptoRow : OpenClaim := { program := "ytjakoeamnmdcmaa", sum := "bd1340da57eadb37b3c8f5a1d9c76f535c2a27f427f90438b71c1ce473816fa1", func := "loop.example/wholewaves/laws.FnExactTimesOf", spec := "fnExactTimesOf", apart := false, narrowed := true }
def FnExactTimesOfUptoSaid : Prop := fnExactTimesOfUptoRow.holds Try.pinned (OpenSpec.upto fnExactTimesOfSpec)

/-- 'laws.FnExactIsQuiet', WHERE WHAT IT READS IS OF BULK AT MOST 1048576: true; the input reads as it did. -/
def fnExactIsQuietUptoRow : OpenClaim := { program := "ytjakoeamnmdcmaa", sum := "bd1340da57eadb37b3c8f5a1d9c76f535c2a27f427f90438b71c1ce473816fa1", func := "loop.example/wholewaves/laws.FnExactIsQuiet", spec := "fnExactIsQuiet", apart := false, narrowed := true }
def FnExactIsQuietUptoSaid : Prop := fnExactIsQuietUptoRow.holds Try.pinned (OpenSpec.upto fnExactIsQuietSpec)

/-- 'laws.FnExactArePaired', WHERE WHAT IT READS IS OF BULK AT MOST 1048576: true; the input reads as it did. -/
def fnExactArePairedUptoRow : OpenClaim := { program := "ytjakoeamnmdcmaa", sum := "bd1340da57eadb37b3c8f5a1d9c76f535c2a27f427f90438b71c1ce473816fa1", func := "loop.example/wholewaves/laws.FnExactArePaired", spec := "fnExactArePaired", apart := false, narrowed := true }
def FnExactArePairedUptoSaid : Prop := fnExactArePairedUptoRow.holds Try.pinned (OpenSpec.upto fnExactArePairedSpec)

/-- 'laws.FnExactHalveOf', WHERE WHAT IT READS IS OF BULK AT MOST 1048576: true; the input reads as it did. -/
def fnExactHalveOfUptoRow : OpenClaim := { program := "ytjakoeamnmdcmaa", sum := "bd1340da57eadb37b3c8f5a1d9c76f535c2a27f427f90438b71c1ce473816fa1", func := "loop.example/wholewaves/laws.FnExactHalveOf", spec := "fnExactHalveOf", apart := false, narrowed := true }
def FnExactHalveOfUptoSaid : Prop := fnExactHalveOfUptoRow.holds Try.pinned (OpenSpec.upto fnExactHalveOfSpec)

/-- 'laws.FnExactUnhalveOf', WHERE WHAT IT READS IS OF BULK AT MOST 1048576: true; the input reads as it did. -/
def fnExactUnhalveOfUptoRow : OpenClaim := { program := "ytjakoeamnmdcmaa", sum := "bd1340da57eadb37b3c8f5a1d9c76f535c2a27f427f90438b71c1ce473816fa1", func := "loop.example/wholewaves/laws.FnExactUnhalveOf", spec := "fnExactUnhalveOf", apart := false, narrowed := true }
def FnExactUnhalveOfUptoSaid : Prop := fnExactUnhalveOfUptoRow.holds Try.pinned (OpenSpec.upto fnExactUnhalveOfSpec)

/-- 'laws.FnExactBelowOf', WHERE WHAT IT READS IS OF BULK AT MOST 1048576: true; the input reads as it did. -/
def fnExactBelowOfUptoRow : OpenClaim := { program := "ytjakoeamnmdcmaa", sum := "bd1340da57eadb37b3c8f5a1d9c76f535c2a27f427f90438b71c1ce473816fa1", func := "loop.example/wholewaves/laws.FnExactBelowOf", spec := "fnExactBelowOf", apart := false, narrowed := true }
def FnExactBelowOfUptoSaid : Prop := fnExactBelowOfUptoRow.holds Try.pinned (OpenSpec.upto fnExactBelowOfSpec)

/-- 'laws.FnExactUnbelowOf', WHERE WHAT IT READS IS OF BULK AT MOST 1048576: true; the input reads as it did. -/
def fnExactUnbelowOfUptoRow : OpenClaim := { program := "ytjakoeamnmdcmaa", sum := "bd1340da57eadb37b3c8f5a1d9c76f535c2a27f427f90438b71c1ce473816fa1", func := "loop.example/wholewaves/laws.FnExactUnbelowOf", spec := "fnExactUnbelowOf", apart := false, narrowed := true }
def FnExactUnbelowOfUptoSaid : Prop := fnExactUnbelowOfUptoRow.holds Try.pinned (OpenSpec.upto fnExactUnbelowOfSpec)

end Rows
end Go.Proofs.Ytjakoeamnmdcmaa
