/- The walk of FnExactIsQuiet: the reference and the program return the same row for all arguments, change none of them, and share no memory. No conditions. -/
import Derived.Test.YtjakoeamnmdcmaaExact
import Derived.Test.YtjakoeamnmdcmaaQuiet5
namespace Go.Proofs.Ytjakoeamnmdcmaa
open Go.RowKit
set_option maxHeartbeats 1600000 in
theorem law_FnExactIsQuiet (w : World) (a0 : Option Addr) (n0 c0 : Nat) (z0 : List Int) (h0 : Rd w (.slice a0 n0 c0) z0)  :
    Calls Try.prog 4 #[.slice a0 n0 c0] w fun e w' => e = .returned (.bool true) ∧ Below w.heap.size w w' := by
  obtain rfl : n0 = z0.length := h0.len
  by_cases g0 : 1048576 < z0.length
  · clear h0
    go_enter Try.func4, Try.ntmps4
    go_wp2
    go_ret
    exact ⟨rfl, Below.refl _ _⟩
  have l0 : z0.length ≤ 1048576 := by omega
  go_enter Try.func4, Try.ntmps4
  have b0 : Below w.heap.size w w := Below.refl _ _
  go_wp2_with fail
  refine (toInt_any _ _ z0 (h0.below b0) l0).mono ?_
  rintro e w105 ⟨v101, rfl, o102, b103⟩
  have g104 := Below.grownBy b103
  clear b103
  have s106 := b0.size
  replace o102 := o102.mono s106
  have b1 := b0.grown g104 b0.size (by simp)
  clear b0
  clear g104
  go_wp2_with fail
  refine (specIsQuiet_any _ _ z0 o102.rd l0 ).mono ?_
  rintro e w109 ⟨rfl, b107⟩
  have g108 := Below.grownBy b107
  clear b107
  replace o102 := o102.keep g108
  have b2 := b1.grown g108 b1.size (by simp)
  clear b1
  clear g108
  clear o102
  go_wp2_with fail
  refine (toInt_any _ _ z0 (h0.below b2) l0).mono ?_
  rintro e w114 ⟨v110, rfl, o111, b112⟩
  have g113 := Below.grownBy b112
  clear b112
  have s115 := b2.size
  replace o111 := o111.mono s115
  have b3 := b2.grown g113 b2.size (by simp)
  clear b2
  clear g113
  go_wp2_with fail
  refine (implIsQuiet_any _ _ z0 o111.rd l0 ).mono ?_
  rintro e w118 ⟨rfl, b116⟩
  have g117 := Below.grownBy b116
  clear b116
  replace o111 := o111.keep g117
  have b4 := b3.grown g117 b3.size (by simp)
  clear b3
  clear g117
  go_wp2_with fail
  refine (toInt_any _ _ z0 (h0.below b4) l0).mono ?_
  rintro e w123 ⟨v119, rfl, o120, b121⟩
  have g122 := Below.grownBy b121
  clear b121
  have s124 := b4.size
  replace o120 := o120.mono s124
  replace o111 := o111.keep g122
  have b5 := b4.grown g122 b4.size (by simp)
  clear b4
  clear g122
  go_wp2_with fail
  refine (eqInt_any _ _ _ _ _ o111.rd o120.rd).mono ?_
  rintro e w125 ⟨rfl, q126⟩
  have g127 := Quiet.grown q126
  clear q126
  rw [decide_eq_true rfl]
  replace o111 := o111.keep g127
  replace o120 := o120.keep g127
  have b6 := b5.grown g127 b5.size (by simp)
  clear b5
  clear g127
  clear o120
  go_wp2_with fail
  go_ret
  exact ⟨rfl, b6⟩
end Go.Proofs.Ytjakoeamnmdcmaa
