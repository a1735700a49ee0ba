/- The walk of FnExactChangesIn: the reference and the program return the same row for all arguments, change none of them, and share no memory. No conditions. -/
import Derived.Test.YtokhgkmdeionoaaExact
import Derived.Test.YtokhgkmdeionoaaChg6
namespace Go.Proofs.Ytokhgkmdeionoaa
open Go.RowKit
set_option maxHeartbeats 1600000 in
theorem law_FnExactChangesIn (w : World)  (k0 : Int) (k1 : Int) :
    Calls Try.prog 6 #[.int .i64 k0, .int .i64 k1] w fun e w' => e = .returned (.bool true) ∧ Below w.heap.size w w' := by
  go_enter Try.func6, Try.ntmps6
  have b0 : Below w.heap.size w w := Below.refl _ _
  go_wp2_with fail
  refine (specChangesIn_any _  k0 k1).mono ?_
  rintro e _ ⟨rfl, rfl⟩
  go_wp2_with fail
  refine (implChangesIn_any _  k0 k1).mono ?_
  rintro e _ ⟨rfl, rfl⟩
  go_wp2_with fail
  go_ret
  exact ⟨rfl, b0⟩
end Go.Proofs.Ytokhgkmdeionoaa
