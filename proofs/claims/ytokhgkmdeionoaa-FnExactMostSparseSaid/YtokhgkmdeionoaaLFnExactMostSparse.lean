/- The walk of FnExactMostSparse: the reference and the program return the same set. No conditions. -/
import Derived.Test.YtokhgkmdeionoaaMost6w
namespace Go.Proofs.Ytokhgkmdeionoaa
open Go.RowKit
theorem law_FnExactMostSparse (w : World) : Calls Try.prog 9 #[] w fun e w' => e = .returned (.bool true) ∧ w = w' := by
  go_enter Try.func9, Try.ntmps9
  go_wp2_with fail
  refine (specMost_any _).mono ?_; rintro e w' ⟨rfl, rfl⟩
  go_wp2_with fail
  refine (implMost_any _).mono ?_; rintro e w' ⟨rfl, rfl⟩
  go_wp2_with fail
  go_ret
  exact ⟨rfl, rfl⟩
end Go.Proofs.Ytokhgkmdeionoaa
