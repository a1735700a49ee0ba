/- The walk of FnExactConstants: every constant has its value. No conditions. -/
import Derived.Test.YtnhpcjghgnajhaaBase
namespace Go.Proofs.Ytnhpcjghgnajhaa
open Go.RowKit
theorem law_FnExactConstants (w : World) : Calls Try.prog 3 #[] w fun e w' => e = .returned (.bool true) ∧ w = w' := by
  go_enter Try.func3, Try.ntmps3
  go_wp2
  go_ret
  exact ⟨rfl, rfl⟩
end Go.Proofs.Ytnhpcjghgnajhaa
