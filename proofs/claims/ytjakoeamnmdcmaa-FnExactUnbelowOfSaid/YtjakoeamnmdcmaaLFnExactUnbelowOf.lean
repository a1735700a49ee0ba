/- The walk of FnExactUnbelowOf: the reference and the program return the same row for all arguments, change none of them, and share no memory. No conditions. -/
import Derived.Test.YtjakoeamnmdcmaaExact
import Derived.Test.YtjakoeamnmdcmaaBelow1b
namespace Go.Proofs.Ytjakoeamnmdcmaa
open Go.RowKit
set_option maxHeartbeats 1600000 in
theorem law_FnExactUnbelowOf (w : World) (a0 : Option Addr) (n0 c0 : Nat) (z0 : List Int) (h0 : Rd w (.slice a0 n0 c0) z0)  :
    Calls Try.prog 9 #[.slice a0 n0 c0] w fun e w' => e = .returned (.bool true) ∧ Below w.heap.size w w' := by
  obtain rfl : n0 = z0.length := h0.len
  by_cases g0 : 1048576 < z0.length
  · clear h0
    go_enter Try.func9, Try.ntmps9
    go_wp2
    go_ret
    exact ⟨rfl, Below.refl _ _⟩
  have L := resUnbelowOf_len z0
  have l0 : z0.length ≤ 1048576 := by omega
  go_enter Try.func9, Try.ntmps9
  have b0 : Below w.heap.size w w := Below.refl _ _
  go_wp2_with fail
  refine (toInt_any _ _ z0 (h0.below b0) l0).mono ?_
  rintro e w105 ⟨v101, rfl, o102, b103⟩
  have g104 := Below.grownBy b103
  clear b103
  have s106 := b0.size
  replace o102 := o102.mono s106
  have b1 := b0.grown g104 b0.size (by simp)
  clear b0
  clear g104
  go_wp2_with fail
  refine (specUnbelowOf_any _ _ z0 o102.rd l0 ).mono ?_
  rintro e w111 ⟨v107, rfl, o108, b109⟩
  have g110 := Below.grownBy b109
  clear b109
  have s112 := b1.size
  replace o108 := o108.mono s112
  replace o102 := o102.keep g110
  have b2 := b1.grown g110 b1.size (by simp)
  clear b1
  clear g110
  clear o102
  go_wp2_with fail
  refine (toInt_any _ _ z0 (h0.below b2) l0).mono ?_
  rintro e w117 ⟨v113, rfl, o114, b115⟩
  have g116 := Below.grownBy b115
  clear b115
  have ap118 := Lib.hid (Own.apart o108 o114 (Nat.le_refl _))
  have ap119 := Lib.hid (Own.apart' o108 o114 (Nat.le_refl _))
  have s120 := b2.size
  replace o114 := o114.mono s120
  replace o108 := o108.keep g116
  have b3 := b2.grown g116 b2.size (by simp)
  clear b2
  clear g116
  go_wp2_with fail
  refine (implUnbelowOf_any _ _ z0 o114.rd l0 ).mono ?_
  rintro e w125 ⟨v121, rfl, o122, b123⟩
  have g124 := Below.grownBy b123
  clear b123
  have ap126 := Lib.hid (Own.apart o108 o122 (Nat.le_refl _))
  have ap127 := Lib.hid (Own.apart' o108 o122 (Nat.le_refl _))
  have ap128 := Lib.hid (Own.apart o114 o122 (Nat.le_refl _))
  have ap129 := Lib.hid (Own.apart' o114 o122 (Nat.le_refl _))
  have s130 := b3.size
  replace o122 := o122.mono s130
  replace o108 := o108.keep g124
  replace o114 := o114.keep g124
  have b4 := b3.grown g124 b3.size (by simp)
  clear b3
  clear g124
  go_wp2_with fail
  refine (eqInt_any _ _ _ _ _ o122.rd o108.rd).mono ?_
  rintro e w131 ⟨rfl, q132⟩
  have g133 := Quiet.grown q132
  clear q132
  rw [decide_eq_true rfl]
  replace o108 := o108.keep g133
  replace o114 := o114.keep g133
  replace o122 := o122.keep g133
  have b5 := b4.grown g133 b4.size (by simp)
  clear b4
  clear g133
  go_wp2_with fail
  refine (toInt_any _ _ z0 (h0.below b5) l0).mono ?_
  rintro e w138 ⟨v134, rfl, o135, b136⟩
  have g137 := Below.grownBy b136
  clear b136
  have s139 := b5.size
  replace o135 := o135.mono s139
  replace o108 := o108.keep g137
  replace o114 := o114.keep g137
  replace o122 := o122.keep g137
  have b6 := b5.grown g137 b5.size (by simp)
  clear b5
  clear g137
  go_wp2_with fail
  refine (eqInt_any _ _ _ _ _ o114.rd o135.rd).mono ?_
  rintro e w140 ⟨rfl, q141⟩
  have g142 := Quiet.grown q141
  clear q141
  rw [decide_eq_true rfl]
  replace o108 := o108.keep g142
  replace o114 := o114.keep g142
  replace o122 := o122.keep g142
  replace o135 := o135.keep g142
  have b7 := b6.grown g142 b6.size (by simp)
  clear b6
  clear g142
  clear o135
  go_wp2_with fail
  refine (markInt_any _ _ 1 _ _ _ o114 (by first | rfl | simp) (by omega) (by omega)).mono ?_
  rintro e w143 ⟨rfl, o144, g145⟩
  replace o108 := o108.kept g145 (Hid.out ap118)
  replace o122 := o122.kept g145 (Hid.out ap129)
  have b8 := b7.grown g145 b7.size (fun j hj => (World.ownsRow.lt o114 j hj).1)
  clear b7 o114 g145
  go_wp2_with fail
  refine (eqInt_any _ _ _ _ _ o122.rd o108.rd).mono ?_
  rintro e w146 ⟨rfl, q147⟩
  have g148 := Quiet.grown q147
  clear q147
  rw [decide_eq_true rfl]
  replace o108 := o108.keep g148
  replace o144 := o144.keep g148
  replace o122 := o122.keep g148
  have b9 := b8.grown g148 b8.size (by simp)
  clear b8
  clear g148
  clear o144
  clear ap118
  clear ap119
  clear ap128
  clear ap129
  go_wp2_with fail
  refine (markInt_any _ _ 1 _ _ _ o122 (by first | rfl | simp) (by omega) (by omega)).mono ?_
  rintro e w149 ⟨rfl, o150, g151⟩
  replace o108 := o108.kept g151 (Hid.out ap126)
  have b10 := b9.grown g151 b9.size (fun j hj => (World.ownsRow.lt o122 j hj).1)
  clear b9 o122 g151
  go_wp2_with fail
  refine (heldInt_any _ _ 1 _ _ _ o150 (by first | rfl | simp) (by omega) (by omega)).mono ?_
  rintro e _ ⟨rfl, rfl⟩
  go_wp2_with fail
  refine (toInt_any _ _ z0 (h0.below b10) l0).mono ?_
  rintro e w156 ⟨v152, rfl, o153, b154⟩
  have g155 := Below.grownBy b154
  clear b154
  have s157 := b10.size
  replace o153 := o153.mono s157
  replace o108 := o108.keep g155
  replace o150 := o150.keep g155
  have b11 := b10.grown g155 b10.size (by simp)
  clear b10
  clear g155
  go_wp2_with fail
  refine (implUnbelowOf_any _ _ z0 o153.rd l0 ).mono ?_
  rintro e w162 ⟨v158, rfl, o159, b160⟩
  have g161 := Below.grownBy b160
  clear b160
  have s163 := b11.size
  replace o159 := o159.mono s163
  replace o108 := o108.keep g161
  replace o150 := o150.keep g161
  replace o153 := o153.keep g161
  have b12 := b11.grown g161 b11.size (by simp)
  clear b11
  clear g161
  go_wp2_with fail
  refine (eqInt_any _ _ _ _ _ o159.rd o108.rd).mono ?_
  rintro e w164 ⟨rfl, q165⟩
  have g166 := Quiet.grown q165
  clear q165
  rw [decide_eq_true rfl]
  replace o108 := o108.keep g166
  replace o150 := o150.keep g166
  replace o153 := o153.keep g166
  replace o159 := o159.keep g166
  have b13 := b12.grown g166 b12.size (by simp)
  clear b12
  clear g166
  go_wp2_with fail
  refine (heldInt_any _ _ 1 _ _ _ o150 (by first | rfl | simp) (by omega) (by omega)).mono ?_
  rintro e _ ⟨rfl, rfl⟩
  go_wp2_with fail
  go_ret
  exact ⟨rfl, b13⟩
end Go.Proofs.Ytjakoeamnmdcmaa
