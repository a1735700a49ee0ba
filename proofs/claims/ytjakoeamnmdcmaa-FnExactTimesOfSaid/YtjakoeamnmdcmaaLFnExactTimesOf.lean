/- The walk of FnExactTimesOf: the reference and the program return the same row for all arguments, change none of them, and share no memory. No conditions. -/
import Derived.Test.YtjakoeamnmdcmaaExact
import Derived.Test.YtjakoeamnmdcmaaTimes5
namespace Go.Proofs.Ytjakoeamnmdcmaa
open Go.RowKit
set_option maxHeartbeats 1600000 in
theorem law_FnExactTimesOf (w : World) (a0 : Option Addr) (n0 c0 : Nat) (z0 : List Int) (h0 : Rd w (.slice a0 n0 c0) z0) (a1 : Option Addr) (n1 c1 : Nat) (z1 : List Int) (h1 : Rd w (.slice a1 n1 c1) z1)  :
    Calls Try.prog 3 #[.slice a0 n0 c0, .slice a1 n1 c1] w fun e w' => e = .returned (.bool true) ∧ Below w.heap.size w w' := by
  obtain rfl : n0 = z0.length := h0.len
  obtain rfl : n1 = z1.length := h1.len
  by_cases g0 : 1048576 < z0.length
  · clear h0 h1
    go_enter Try.func3, Try.ntmps3
    go_wp2
    go_ret
    exact ⟨rfl, Below.refl _ _⟩
  by_cases g1 : 1048576 < z1.length
  · clear h0 h1
    go_enter Try.func3, Try.ntmps3
    go_wp2
    go_ret
    exact ⟨rfl, Below.refl _ _⟩
  have L := resTimesOf_len z0 z1
  have l0 : z0.length ≤ 1048576 := by omega
  have l1 : z1.length ≤ 1048576 := by omega
  go_enter Try.func3, Try.ntmps3
  have b0 : Below w.heap.size w w := Below.refl _ _
  go_wp2_with fail
  refine (toInt_any _ _ z0 (h0.below b0) l0).mono ?_
  rintro e w105 ⟨v101, rfl, o102, b103⟩
  have g104 := Below.grownBy b103
  clear b103
  have s106 := b0.size
  replace o102 := o102.mono s106
  have b1 := b0.grown g104 b0.size (by simp)
  clear b0
  clear g104
  go_wp2_with fail
  refine (toInt_any _ _ z1 (h1.below b1) l1).mono ?_
  rintro e w111 ⟨v107, rfl, o108, b109⟩
  have g110 := Below.grownBy b109
  clear b109
  have s112 := b1.size
  replace o108 := o108.mono s112
  replace o102 := o102.keep g110
  have b2 := b1.grown g110 b1.size (by simp)
  clear b1
  clear g110
  go_wp2_with fail
  refine (specTimesOf_any _ _ z0 o102.rd l0 _ z1 o108.rd l1 ).mono ?_
  rintro e w117 ⟨v113, rfl, o114, b115⟩
  have g116 := Below.grownBy b115
  clear b115
  have s118 := b2.size
  replace o114 := o114.mono s118
  replace o102 := o102.keep g116
  replace o108 := o108.keep g116
  have b3 := b2.grown g116 b2.size (by simp)
  clear b2
  clear g116
  clear o102
  clear o108
  go_wp2_with fail
  refine (toInt_any _ _ z0 (h0.below b3) l0).mono ?_
  rintro e w123 ⟨v119, rfl, o120, b121⟩
  have g122 := Below.grownBy b121
  clear b121
  have ap124 := Lib.hid (Own.apart o114 o120 (Nat.le_refl _))
  have ap125 := Lib.hid (Own.apart' o114 o120 (Nat.le_refl _))
  have s126 := b3.size
  replace o120 := o120.mono s126
  replace o114 := o114.keep g122
  have b4 := b3.grown g122 b3.size (by simp)
  clear b3
  clear g122
  go_wp2_with fail
  refine (toInt_any _ _ z1 (h1.below b4) l1).mono ?_
  rintro e w131 ⟨v127, rfl, o128, b129⟩
  have g130 := Below.grownBy b129
  clear b129
  have ap132 := Lib.hid (Own.apart o114 o128 (Nat.le_refl _))
  have ap133 := Lib.hid (Own.apart' o114 o128 (Nat.le_refl _))
  have ap134 := Lib.hid (Own.apart o120 o128 (Nat.le_refl _))
  have ap135 := Lib.hid (Own.apart' o120 o128 (Nat.le_refl _))
  have s136 := b4.size
  replace o128 := o128.mono s136
  replace o114 := o114.keep g130
  replace o120 := o120.keep g130
  have b5 := b4.grown g130 b4.size (by simp)
  clear b4
  clear g130
  go_wp2_with fail
  refine (implTimesOf_any _ _ z0 o120.rd l0 _ z1 o128.rd l1 ).mono ?_
  rintro e w141 ⟨v137, rfl, o138, b139⟩
  have g140 := Below.grownBy b139
  clear b139
  have ap142 := Lib.hid (Own.apart o114 o138 (Nat.le_refl _))
  have ap143 := Lib.hid (Own.apart' o114 o138 (Nat.le_refl _))
  have ap144 := Lib.hid (Own.apart o120 o138 (Nat.le_refl _))
  have ap145 := Lib.hid (Own.apart' o120 o138 (Nat.le_refl _))
  have ap146 := Lib.hid (Own.apart o128 o138 (Nat.le_refl _))
  have ap147 := Lib.hid (Own.apart' o128 o138 (Nat.le_refl _))
  have s148 := b5.size
  replace o138 := o138.mono s148
  replace o114 := o114.keep g140
  replace o120 := o120.keep g140
  replace o128 := o128.keep g140
  have b6 := b5.grown g140 b5.size (by simp)
  clear b5
  clear g140
  go_wp2_with fail
  refine (eqInt_any _ _ _ _ _ o138.rd o114.rd).mono ?_
  rintro e w149 ⟨rfl, q150⟩
  have g151 := Quiet.grown q150
  clear q150
  rw [decide_eq_true rfl]
  replace o114 := o114.keep g151
  replace o120 := o120.keep g151
  replace o128 := o128.keep g151
  replace o138 := o138.keep g151
  have b7 := b6.grown g151 b6.size (by simp)
  clear b6
  clear g151
  go_wp2_with fail
  refine (toInt_any _ _ z0 (h0.below b7) l0).mono ?_
  rintro e w156 ⟨v152, rfl, o153, b154⟩
  have g155 := Below.grownBy b154
  clear b154
  have s157 := b7.size
  replace o153 := o153.mono s157
  replace o114 := o114.keep g155
  replace o120 := o120.keep g155
  replace o128 := o128.keep g155
  replace o138 := o138.keep g155
  have b8 := b7.grown g155 b7.size (by simp)
  clear b7
  clear g155
  go_wp2_with fail
  refine (eqInt_any _ _ _ _ _ o120.rd o153.rd).mono ?_
  rintro e w158 ⟨rfl, q159⟩
  have g160 := Quiet.grown q159
  clear q159
  rw [decide_eq_true rfl]
  replace o114 := o114.keep g160
  replace o120 := o120.keep g160
  replace o128 := o128.keep g160
  replace o138 := o138.keep g160
  replace o153 := o153.keep g160
  have b9 := b8.grown g160 b8.size (by simp)
  clear b8
  clear g160
  clear o153
  go_wp2_with fail
  refine (toInt_any _ _ z1 (h1.below b9) l1).mono ?_
  rintro e w165 ⟨v161, rfl, o162, b163⟩
  have g164 := Below.grownBy b163
  clear b163
  have s166 := b9.size
  replace o162 := o162.mono s166
  replace o114 := o114.keep g164
  replace o120 := o120.keep g164
  replace o128 := o128.keep g164
  replace o138 := o138.keep g164
  have b10 := b9.grown g164 b9.size (by simp)
  clear b9
  clear g164
  go_wp2_with fail
  refine (eqInt_any _ _ _ _ _ o128.rd o162.rd).mono ?_
  rintro e w167 ⟨rfl, q168⟩
  have g169 := Quiet.grown q168
  clear q168
  rw [decide_eq_true rfl]
  replace o114 := o114.keep g169
  replace o120 := o120.keep g169
  replace o128 := o128.keep g169
  replace o138 := o138.keep g169
  replace o162 := o162.keep g169
  have b11 := b10.grown g169 b10.size (by simp)
  clear b10
  clear g169
  clear o162
  go_wp2_with fail
  refine (markInt_any _ _ 1 _ _ _ o120 (by first | rfl | simp) (by omega) (by omega)).mono ?_
  rintro e w170 ⟨rfl, o171, g172⟩
  replace o114 := o114.kept g172 (Hid.out ap124)
  replace o128 := o128.kept g172 (Hid.out ap135)
  replace o138 := o138.kept g172 (Hid.out ap145)
  have b12 := b11.grown g172 b11.size (fun j hj => (World.ownsRow.lt o120 j hj).1)
  clear b11 o120 g172
  go_wp2_with fail
  refine (markInt_any _ _ (1 + z0.length) _ _ _ o128 (by first | rfl | simp) (by omega) (by omega)).mono ?_
  rintro e w173 ⟨rfl, o174, g175⟩
  replace o114 := o114.kept g175 (Hid.out ap132)
  replace o171 := o171.kept g175 (Hid.out ap134)
  replace o138 := o138.kept g175 (Hid.out ap147)
  have b13 := b12.grown g175 b12.size (fun j hj => (World.ownsRow.lt o128 j hj).1)
  clear b12 o128 g175
  go_wp2_with fail
  refine (eqInt_any _ _ _ _ _ o138.rd o114.rd).mono ?_
  rintro e w176 ⟨rfl, q177⟩
  have g178 := Quiet.grown q177
  clear q177
  rw [decide_eq_true rfl]
  replace o114 := o114.keep g178
  replace o171 := o171.keep g178
  replace o174 := o174.keep g178
  replace o138 := o138.keep g178
  have b14 := b13.grown g178 b13.size (by simp)
  clear b13
  clear g178
  clear o171
  clear ap124
  clear ap125
  clear ap134
  clear ap135
  clear ap144
  clear ap145
  clear o174
  clear ap132
  clear ap133
  clear ap146
  clear ap147
  go_wp2_with fail
  refine (markInt_any _ _ 1 _ _ _ o138 (by first | rfl | simp) (by omega) (by omega)).mono ?_
  rintro e w179 ⟨rfl, o180, g181⟩
  replace o114 := o114.kept g181 (Hid.out ap142)
  have b15 := b14.grown g181 b14.size (fun j hj => (World.ownsRow.lt o138 j hj).1)
  clear b14 o138 g181
  go_wp2_with fail
  refine (heldInt_any _ _ 1 _ _ _ o180 (by first | rfl | simp) (by omega) (by omega)).mono ?_
  rintro e _ ⟨rfl, rfl⟩
  go_wp2_with fail
  refine (toInt_any _ _ z0 (h0.below b15) l0).mono ?_
  rintro e w186 ⟨v182, rfl, o183, b184⟩
  have g185 := Below.grownBy b184
  clear b184
  have s187 := b15.size
  replace o183 := o183.mono s187
  replace o114 := o114.keep g185
  replace o180 := o180.keep g185
  have b16 := b15.grown g185 b15.size (by simp)
  clear b15
  clear g185
  go_wp2_with fail
  refine (toInt_any _ _ z1 (h1.below b16) l1).mono ?_
  rintro e w192 ⟨v188, rfl, o189, b190⟩
  have g191 := Below.grownBy b190
  clear b190
  have s193 := b16.size
  replace o189 := o189.mono s193
  replace o114 := o114.keep g191
  replace o180 := o180.keep g191
  replace o183 := o183.keep g191
  have b17 := b16.grown g191 b16.size (by simp)
  clear b16
  clear g191
  go_wp2_with fail
  refine (implTimesOf_any _ _ z0 o183.rd l0 _ z1 o189.rd l1 ).mono ?_
  rintro e w198 ⟨v194, rfl, o195, b196⟩
  have g197 := Below.grownBy b196
  clear b196
  have s199 := b17.size
  replace o195 := o195.mono s199
  replace o114 := o114.keep g197
  replace o180 := o180.keep g197
  replace o183 := o183.keep g197
  replace o189 := o189.keep g197
  have b18 := b17.grown g197 b17.size (by simp)
  clear b17
  clear g197
  go_wp2_with fail
  refine (eqInt_any _ _ _ _ _ o195.rd o114.rd).mono ?_
  rintro e w200 ⟨rfl, q201⟩
  have g202 := Quiet.grown q201
  clear q201
  rw [decide_eq_true rfl]
  replace o114 := o114.keep g202
  replace o180 := o180.keep g202
  replace o183 := o183.keep g202
  replace o189 := o189.keep g202
  replace o195 := o195.keep g202
  have b19 := b18.grown g202 b18.size (by simp)
  clear b18
  clear g202
  go_wp2_with fail
  refine (heldInt_any _ _ 1 _ _ _ o180 (by first | rfl | simp) (by omega) (by omega)).mono ?_
  rintro e _ ⟨rfl, rfl⟩
  go_wp2_with fail
  go_ret
  exact ⟨rfl, b19⟩
end Go.Proofs.Ytjakoeamnmdcmaa
