/- The walk of FnExactArePaired: the reference and the program return the same row for all arguments, change none of them, and share no memory. No conditions. -/
import Derived.Test.YtjakoeamnmdcmaaExact
import Derived.Test.YtjakoeamnmdcmaaPair5
namespace Go.Proofs.Ytjakoeamnmdcmaa
open Go.RowKit
set_option maxHeartbeats 1600000 in
theorem law_FnExactArePaired (w : World) (a0 : Option Addr) (n0 c0 : Nat) (z0 : List Int) (h0 : Rd w (.slice a0 n0 c0) z0) (a1 : Option Addr) (n1 c1 : Nat) (z1 : List Int) (h1 : Rd w (.slice a1 n1 c1) z1)  :
    Calls Try.prog 5 #[.slice a0 n0 c0, .slice a1 n1 c1] w fun e w' => e = .returned (.bool true) ∧ Below w.heap.size w w' := by
  obtain rfl : n0 = z0.length := h0.len
  obtain rfl : n1 = z1.length := h1.len
  by_cases g0 : 1048576 < z0.length
  · clear h0 h1
    go_enter Try.func5, Try.ntmps5
    go_wp2
    go_ret
    exact ⟨rfl, Below.refl _ _⟩
  by_cases g1 : 1048576 < z1.length
  · clear h0 h1
    go_enter Try.func5, Try.ntmps5
    go_wp2
    go_ret
    exact ⟨rfl, Below.refl _ _⟩
  have l0 : z0.length ≤ 1048576 := by omega
  have l1 : z1.length ≤ 1048576 := by omega
  go_enter Try.func5, Try.ntmps5
  have b0 : Below w.heap.size w w := Below.refl _ _
  go_wp2_with fail
  refine (toInt_any _ _ z0 (h0.below b0) l0).mono ?_
  rintro e w105 ⟨v101, rfl, o102, b103⟩
  have g104 := Below.grownBy b103
  clear b103
  have s106 := b0.size
  replace o102 := o102.mono s106
  have b1 := b0.grown g104 b0.size (by simp)
  clear b0
  clear g104
  go_wp2_with fail
  refine (toInt_any _ _ z1 (h1.below b1) l1).mono ?_
  rintro e w111 ⟨v107, rfl, o108, b109⟩
  have g110 := Below.grownBy b109
  clear b109
  have s112 := b1.size
  replace o108 := o108.mono s112
  replace o102 := o102.keep g110
  have b2 := b1.grown g110 b1.size (by simp)
  clear b1
  clear g110
  go_wp2_with fail
  refine (specArePaired_any _ _ z0 o102.rd l0 _ z1 o108.rd l1 ).mono ?_
  rintro e w115 ⟨rfl, b113⟩
  have g114 := Below.grownBy b113
  clear b113
  replace o102 := o102.keep g114
  replace o108 := o108.keep g114
  have b3 := b2.grown g114 b2.size (by simp)
  clear b2
  clear g114
  clear o102
  clear o108
  go_wp2_with fail
  refine (toInt_any _ _ z0 (h0.below b3) l0).mono ?_
  rintro e w120 ⟨v116, rfl, o117, b118⟩
  have g119 := Below.grownBy b118
  clear b118
  have s121 := b3.size
  replace o117 := o117.mono s121
  have b4 := b3.grown g119 b3.size (by simp)
  clear b3
  clear g119
  go_wp2_with fail
  refine (toInt_any _ _ z1 (h1.below b4) l1).mono ?_
  rintro e w126 ⟨v122, rfl, o123, b124⟩
  have g125 := Below.grownBy b124
  clear b124
  have s127 := b4.size
  replace o123 := o123.mono s127
  replace o117 := o117.keep g125
  have b5 := b4.grown g125 b4.size (by simp)
  clear b4
  clear g125
  go_wp2_with fail
  refine (implArePaired_any _ _ z0 o117.rd l0 _ z1 o123.rd l1 ).mono ?_
  rintro e w130 ⟨rfl, b128⟩
  have g129 := Below.grownBy b128
  clear b128
  replace o117 := o117.keep g129
  replace o123 := o123.keep g129
  have b6 := b5.grown g129 b5.size (by simp)
  clear b5
  clear g129
  go_wp2_with fail
  refine (toInt_any _ _ z0 (h0.below b6) l0).mono ?_
  rintro e w135 ⟨v131, rfl, o132, b133⟩
  have g134 := Below.grownBy b133
  clear b133
  have s136 := b6.size
  replace o132 := o132.mono s136
  replace o117 := o117.keep g134
  replace o123 := o123.keep g134
  have b7 := b6.grown g134 b6.size (by simp)
  clear b6
  clear g134
  go_wp2_with fail
  refine (eqInt_any _ _ _ _ _ o117.rd o132.rd).mono ?_
  rintro e w137 ⟨rfl, q138⟩
  have g139 := Quiet.grown q138
  clear q138
  rw [decide_eq_true rfl]
  replace o117 := o117.keep g139
  replace o123 := o123.keep g139
  replace o132 := o132.keep g139
  have b8 := b7.grown g139 b7.size (by simp)
  clear b7
  clear g139
  clear o132
  go_wp2_with fail
  refine (toInt_any _ _ z1 (h1.below b8) l1).mono ?_
  rintro e w144 ⟨v140, rfl, o141, b142⟩
  have g143 := Below.grownBy b142
  clear b142
  have s145 := b8.size
  replace o141 := o141.mono s145
  replace o117 := o117.keep g143
  replace o123 := o123.keep g143
  have b9 := b8.grown g143 b8.size (by simp)
  clear b8
  clear g143
  go_wp2_with fail
  refine (eqInt_any _ _ _ _ _ o123.rd o141.rd).mono ?_
  rintro e w146 ⟨rfl, q147⟩
  have g148 := Quiet.grown q147
  clear q147
  rw [decide_eq_true rfl]
  replace o117 := o117.keep g148
  replace o123 := o123.keep g148
  replace o141 := o141.keep g148
  have b10 := b9.grown g148 b9.size (by simp)
  clear b9
  clear g148
  clear o141
  go_wp2_with fail
  go_ret
  exact ⟨rfl, b10⟩
end Go.Proofs.Ytjakoeamnmdcmaa
