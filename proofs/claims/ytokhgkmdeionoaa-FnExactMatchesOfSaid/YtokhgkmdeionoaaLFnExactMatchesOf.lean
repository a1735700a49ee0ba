/- The walk of FnExactMatchesOf: the reference and the program return the same row for all arguments, change none of them, and share no memory. No conditions. -/
import Derived.Test.YtokhgkmdeionoaaExact
import Derived.Test.YtokhgkmdeionoaaMat6
namespace Go.Proofs.Ytokhgkmdeionoaa
open Go.RowKit
set_option maxHeartbeats 1600000 in
theorem law_FnExactMatchesOf (w : World) (k0 : ByteArray) (m0 : k0.size ≤ maxLen) (k1 : ByteArray) (m1 : k1.size ≤ maxLen) :
    Calls Try.prog 7 #[.string k0, .string k1] w fun e w' => e = .returned (.bool true) ∧ Below w.heap.size w w' := by
  have L := resMatchesOf_len k0 k1
  unfold maxLen at m0 m1
  by_cases hs0 : 1048576 < k0.size
  · have g0 : (1048576 : Int) < (k0.size : Int) := by omega
    go_enter Try.func7, Try.ntmps7
    go_wp2_with fail
    go_ret
    exact ⟨rfl, Below.refl _ _⟩
  have hs0 : k0.size ≤ 1048576 := by omega
  by_cases hs1 : 1048576 < k1.size
  · have g0 : (1048576 : Int) < (k1.size : Int) := by omega
    go_enter Try.func7, Try.ntmps7
    go_wp2_with fail
    go_ret
    exact ⟨rfl, Below.refl _ _⟩
  have hs1 : k1.size ≤ 1048576 := by omega
  go_enter Try.func7, Try.ntmps7
  have b0 : Below w.heap.size w w := Below.refl _ _
  go_wp2_with fail
  refine (specMatchesOf_any _ k0 k1 hs0 hs1).mono ?_
  rintro e w105 ⟨v101, rfl, o102, b103⟩
  have g104 := Below.grownBy b103
  clear b103
  have s106 := b0.size
  replace o102 := o102.mono s106
  have b1 := b0.grown g104 b0.size (by simp)
  clear b0
  clear g104
  go_wp2_with fail
  refine (implMatchesOf_any _ k0 k1 hs0 hs1).mono ?_
  rintro e w111 ⟨v107, rfl, o108, b109⟩
  have g110 := Below.grownBy b109
  clear b109
  have ap112 := Lib.hid (Own.apart o102 o108 (Nat.le_refl _))
  have ap113 := Lib.hid (Own.apart' o102 o108 (Nat.le_refl _))
  have s114 := b1.size
  replace o108 := o108.mono s114
  replace o102 := o102.keep g110
  have b2 := b1.grown g110 b1.size (by simp)
  clear b1
  clear g110
  go_wp2_with fail
  refine (eqInt_any _ _ _ _ _ o108.rd o102.rd).mono ?_
  rintro e w115 ⟨rfl, q116⟩
  have g117 := Quiet.grown q116
  clear q116
  rw [decide_eq_true rfl]
  replace o102 := o102.keep g117
  replace o108 := o108.keep g117
  have b3 := b2.grown g117 b2.size (by simp)
  clear b2
  clear g117
  go_wp2_with fail
  refine (markInt_any _ _ 1 _ _ _ o108 (by first | rfl | simp) (by omega) (by omega)).mono ?_
  rintro e w118 ⟨rfl, o119, g120⟩
  replace o102 := o102.kept g120 (Hid.out ap112)
  have b4 := b3.grown g120 b3.size (fun j hj => (World.ownsRow.lt o108 j hj).1)
  clear b3 o108 g120
  go_wp2_with fail
  refine (heldInt_any _ _ 1 _ _ _ o119 (by first | rfl | simp) (by omega) (by omega)).mono ?_
  rintro e _ ⟨rfl, rfl⟩
  go_wp2_with fail
  refine (implMatchesOf_any _ k0 k1 hs0 hs1).mono ?_
  rintro e w125 ⟨v121, rfl, o122, b123⟩
  have g124 := Below.grownBy b123
  clear b123
  have s126 := b4.size
  replace o122 := o122.mono s126
  replace o102 := o102.keep g124
  replace o119 := o119.keep g124
  have b5 := b4.grown g124 b4.size (by simp)
  clear b4
  clear g124
  go_wp2_with fail
  refine (eqInt_any _ _ _ _ _ o122.rd o102.rd).mono ?_
  rintro e w127 ⟨rfl, q128⟩
  have g129 := Quiet.grown q128
  clear q128
  rw [decide_eq_true rfl]
  replace o102 := o102.keep g129
  replace o119 := o119.keep g129
  replace o122 := o122.keep g129
  have b6 := b5.grown g129 b5.size (by simp)
  clear b5
  clear g129
  go_wp2_with fail
  refine (heldInt_any _ _ 1 _ _ _ o119 (by first | rfl | simp) (by omega) (by omega)).mono ?_
  rintro e _ ⟨rfl, rfl⟩
  go_wp2_with fail
  go_ret
  exact ⟨rfl, b6⟩
end Go.Proofs.Ytokhgkmdeionoaa
