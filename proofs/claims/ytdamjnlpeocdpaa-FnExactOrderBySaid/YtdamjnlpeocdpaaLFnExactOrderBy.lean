/- The walk of FnExactOrderBy: for every argument the reference and the program return the same. No conditions. -/
import Derived.Test.YtdamjnlpeocdpaaNum3
namespace Go.Proofs.Ytdamjnlpeocdpaa
open Go.RowKit
theorem law_FnExactOrderBy (w : World) (x : Int) : Calls Try.prog 3 #[.int .i64 x] w fun e w' => e = .returned (.bool true) ∧ w = w' := by
  by_cases h : 1 ≤ x ∧ x ≤ 96
  · obtain ⟨h0, h1⟩ := h
    go_enter Try.func3, Try.ntmps3
    go_wp2_with (first | (go_at_call 4; refine (specOrder_yes _ _ h0 h1).mono ?_; rintro e w' ⟨rfl, rfl⟩) | (go_at_call 5; refine (implOrder_yes _ _ h0 h1).mono ?_; rintro e w' ⟨rfl, rfl⟩))
    go_ret
    exact ⟨rfl, rfl⟩
  · have h' : x < 1 ∨ 96 < x := by omega
    clear h
    go_enter Try.func3, Try.ntmps3
    go_wp2_with (first | (go_at_call 4; refine (specOrder_no _ _ h').mono ?_; rintro e w' ⟨rfl, rfl⟩) | (go_at_call 5; refine (implOrder_no _ _ h').mono ?_; rintro e w' ⟨rfl, rfl⟩))
    go_ret
    exact ⟨rfl, rfl⟩
end Go.Proofs.Ytdamjnlpeocdpaa
