/- The walk of FnExactSquareSum: for every argument the reference and the program return the same. No conditions. -/
import Derived.Test.YtnhpcjghgnajhaaSquare3
namespace Go.Proofs.Ytnhpcjghgnajhaa
open Go.RowKit
theorem law_FnExactSquareSum (w : World) (x : Int) : Calls Try.prog 5 #[.int .i64 x] w fun e w' => e = .returned (.bool true) ∧ w = w' := by
  by_cases h : 0 ≤ x ∧ x ≤ 15
  · obtain ⟨h0, h1⟩ := h
    obtain ⟨n, rfl⟩ := Int.eq_ofNat_of_zero_le h0
    have a1 : n ≤ 15 := by omega
    clear h0 h1
    go_enter Try.func5, Try.ntmps5
    go_wp2_with (first | (go_at_call 11; refine (specSquare_yes n _ a1).mono ?_; rintro e w' ⟨rfl, rfl⟩) | (go_at_call 12; refine (implSquare_yes n _ a1).mono ?_; rintro e w' ⟨rfl, rfl⟩))
    go_ret
    exact ⟨rfl, rfl⟩
  · have h' : x < 0 ∨ 15 < x := by omega
    have H := Lib.hid h'
    clear h h'
    go_enter Try.func5, Try.ntmps5
    go_wp2_with (first | (go_at_call 11; refine (specSquare_no _ _ H.out).mono ?_; rintro e w' ⟨rfl, rfl⟩) | (go_at_call 12; refine (implSquare_no _ _ H.out).mono ?_; rintro e w' ⟨rfl, rfl⟩))
    go_ret
    exact ⟨rfl, rfl⟩
end Go.Proofs.Ytnhpcjghgnajhaa
