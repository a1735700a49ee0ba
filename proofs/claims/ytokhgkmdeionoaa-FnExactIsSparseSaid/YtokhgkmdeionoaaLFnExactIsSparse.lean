/- The walk of FnExactIsSparse: for every argument the reference and the program answer the same. No conditions. -/
import Derived.Test.YtokhgkmdeionoaaSparse6
namespace Go.Proofs.Ytokhgkmdeionoaa
open Go.RowKit
theorem law_FnExactIsSparse (w : World) (x : Int) : Calls Try.prog 3 #[.int .i64 x] w fun e w' => e = .returned (.bool true) ∧ w = w' := by
  have hs := specSparse_any x
  have hi := implSparse_any x
  obtain ⟨b, hb⟩ : ∃ b, b = (okM x && apartN x.toNat) := ⟨_, rfl⟩
  rw [← hb] at hs hi
  have HS := Lib.hid hs
  have HI := Lib.hid hi
  clear hb hs hi
  go_enter Try.func3, Try.ntmps3
  go_wp2_with (first | (go_at_call 10; refine (HS.out _).mono ?_; rintro e w' ⟨rfl, rfl⟩) | (go_at_call 11; refine (HI.out _).mono ?_; rintro e w' ⟨rfl, rfl⟩))
  go_ret
  exact ⟨rfl, rfl⟩
end Go.Proofs.Ytokhgkmdeionoaa
