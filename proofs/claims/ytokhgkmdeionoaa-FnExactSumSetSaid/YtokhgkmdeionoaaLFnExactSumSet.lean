/- The walk of FnExactSumSet: the reference and the program return the same row for all arguments, change none of them, and share no memory. No conditions. -/
import Derived.Test.YtokhgkmdeionoaaExact
import Derived.Test.YtokhgkmdeionoaaSum6
namespace Go.Proofs.Ytokhgkmdeionoaa
open Go.RowKit
set_option maxHeartbeats 1600000 in
theorem law_FnExactSumSet (w : World)  (k0 : Int) (k1 : Int) :
    Calls Try.prog 4 #[.int .i64 k0, .int .i64 k1] w fun e w' => e = .returned (.bool true) ∧ Below w.heap.size w w' := by
  go_enter Try.func4, Try.ntmps4
  have b0 : Below w.heap.size w w := Below.refl _ _
  go_wp2_with fail
  refine (specSumSet_any _  k0 k1).mono ?_
  rintro e _ ⟨rfl, rfl⟩
  go_wp2_with fail
  refine (implSumSet_any _  k0 k1).mono ?_
  rintro e w106 ⟨rfl, b104⟩
  have g105 := Below.grownBy b104
  clear b104
  have b1 := b0.grown g105 b0.size (by simp)
  clear b0
  clear g105
  go_wp2_with fail
  go_ret
  exact ⟨rfl, b1⟩
end Go.Proofs.Ytokhgkmdeionoaa
