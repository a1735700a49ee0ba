/- The walk of FnExactRootOf: for every argument the reference and the program return the same. No conditions. -/
import Derived.Test.YtnhpcjghgnajhaaNum3
namespace Go.Proofs.Ytnhpcjghgnajhaa
open Go.RowKit
theorem law_FnExactRootOf (w : World) (x : Int) : Calls Try.prog 4 #[.int .i64 x] w fun e w' => e = .returned (.bool true) ∧ w = w' := by
  by_cases h : 1 ≤ x ∧ x ≤ 96 ∧ 96 % x = 0
  · obtain ⟨h0, h1, h2⟩ := h
    obtain ⟨n, rfl⟩ := Int.eq_ofNat_of_zero_le (show 0 ≤ x by omega)
    have a1 : n ≤ 96 := by omega
    have a2 : n ≠ 0 := by omega
    have a3 := Lib.hid (show 96 % n = 0 by have h3 := h2; rw [show (96 : Int) = ((96 : Nat) : Int) from rfl, ← Int.natCast_emod] at h3; exact_mod_cast h3)
    clear h0 h1 h2
    go_enter Try.func4, Try.ntmps4
    go_wp2_with (first | (go_at_call 9; refine (specRoot_yes n _ a1 a2 a3.out).mono ?_; rintro e w' ⟨rfl, rfl⟩) | (go_at_call 10; refine (implRoot_yes n _ a1 a2 a3.out).mono ?_; rintro e w' ⟨rfl, rfl⟩))
    go_ret
    exact ⟨rfl, rfl⟩
  · have h' := Lib.hid (show x < 1 ∨ 96 < x ∨ 96 % x ≠ 0 by omega)
    clear h
    go_enter Try.func4, Try.ntmps4
    go_wp2_with (first | (go_at_call 9; refine (specRoot_no _ _ h'.out).mono ?_; rintro e w' ⟨rfl, rfl⟩) | (go_at_call 10; refine (implRoot_no _ _ h'.out).mono ?_; rintro e w' ⟨rfl, rfl⟩))
    go_ret
    exact ⟨rfl, rfl⟩
end Go.Proofs.Ytnhpcjghgnajhaa
