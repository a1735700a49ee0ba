/- The walk of FnSumSet: for every code the law returns true and nothing that was there is changed. No conditions. -/
import Derived.Test.YtfbflokkjgbabaaDraw6
import Derived.Test.YtfbflokkjgbabaaCdLaw
namespace Go.Proofs.Ytfbflokkjgbabaa
open Go.RowKit
set_option maxHeartbeats 1000000 in
theorem law_FnSumSet (w : World) (a : Option Addr) (n c : Nat) (bs : List Int) (h : Rdb w (.slice a n c) bs) :
    Calls Try.prog 4 #[.slice a n c] w fun e w' => e = .returned (.bool true) ∧ Below w.heap.size w w' := by
  have HN := Lib.hid (drawSumSet_any w _ bs h)
  clear h
  by_cases hn : 1048576 < n
  · clear HN
    go_enter Try.func4, Try.ntmps4
    go_wp2
    go_ret
    exact ⟨rfl, Below.refl _ _⟩
  go_enter Try.func4, Try.ntmps4
  go_wp2_with fail
  refine HN.out.mono ?_; rintro e w1 ⟨x, y, rfl, b1⟩
  clear HN
  by_cases hok : okSumCounts x y = true
  rotate_left
  · have HS := Lib.hid (fun W : World => specSumSet_any W x y)
    have HI := Lib.hid (fun W : World => implSumSet_any W x y)
    have hR : retSumSet x y = -1 := if_neg hok
    rw [hR] at HS HI
    clear hR hok
    go_wp2_with fail
    refine (HI.out _).mono ?_; rintro e w2 ⟨rfl, bb⟩
    have b2 := b1.grown (Below.grownBy bb) b1.size (by simp)
    clear b1 bb
    go_wp2_with fail
    refine (HS.out _).mono ?_; rintro e w' ⟨rfl, rfl⟩
    go_wp2_with fail
    refine (HS.out _).mono ?_; rintro e w' ⟨rfl, rfl⟩
    go_wp2_with fail
    go_ret
    exact ⟨rfl, b2⟩
  · obtain ⟨ha, hb⟩ : okM x = true ∧ okM y = true := by simpa [okSumCounts] using hok
    obtain ⟨p, rfl, hp⟩ := okM_ex ha
    obtain ⟨q, rfl, hq⟩ := okM_ex hb
    have HS := Lib.hid (fun W : World => specSumSet_any W (p : Int) (q : Int))
    have HI := Lib.hid (fun W : World => implSumSet_any W (p : Int) (q : Int))
    have HJ := Lib.hid (fun W : World => implSumSet_any W (q : Int) (p : Int))
    have hR : retSumSet (p : Int) (q : Int) = (ssTo p q 13 : Nat) := by rw [retSumSet, if_pos hok, Int.toNat_natCast, Int.toNat_natCast]
    have hR2 : retSumSet (q : Int) (p : Int) = (ssTo p q 13 : Nat) := by rw [retSumSet, if_pos (by simp [okSumCounts, ha, hb]), Int.toNat_natCast, Int.toNat_natCast, ss_comm]
    rw [hR] at HS HI
    rw [hR2] at HJ
    have hlt := ssTo_lt p q 13
    have e13 : (2 : Nat) ^ 13 = 8192 := by decide
    rw [e13] at hlt
    have HZ := Lib.hid (show p = 0 ∨ q = 0 → ssTo p q 13 = 0 by rintro (rfl | rfl); exact ss_zero q; rw [ss_comm]; exact ss_zero p)
    have HM := Lib.hid (fun (h1 : p ≠ 0) (h2 : q ≠ 0) => ss_many h1 h2 hp hq)
    have HO := Lib.hid (fun W : World => onesL_any (ssTo p q 13) W (by omega))
    have HO1 := Lib.hid (fun W : World => onesL_any p W hp)
    have HO2 := Lib.hid (fun W : World => onesL_any q W hq)
    have t1 := popF_le 13 p
    have t2 := popF_le 13 q
    have t3 := popF_le 13 (ssTo p q 13)
    rw [show popF 13 p = popN p from rfl] at t1
    rw [show popF 13 q = popN q from rfl] at t2
    rw [show popF 13 (ssTo p q 13) = popN (ssTo p q 13) from rfl] at t3
    obtain ⟨S, hS⟩ : ∃ S, S = ssTo p q 13 := ⟨_, rfl⟩
    rw [← hS] at HS HI HJ hlt HZ HM HO t3
    obtain ⟨P1, h1⟩ : ∃ P1, P1 = popN p := ⟨_, rfl⟩
    rw [← h1] at HM HO1 t1
    obtain ⟨P2, h2⟩ : ∃ P2, P2 = popN q := ⟨_, rfl⟩
    rw [← h2] at HM HO2 t2
    obtain ⟨P3, h3⟩ : ∃ P3, P3 = popN S := ⟨_, rfl⟩
    rw [← h3] at HM HO t3
    clear h1 h2 h3 hS hR hR2 ha hb hok e13
    go_wp2_with fail
    refine (HI.out _).mono ?_; rintro e w2 ⟨rfl, bb⟩
    have b2 := b1.grown (Below.grownBy bb) b1.size (by simp)
    clear b1 bb
    go_wp2_with fail
    refine (HS.out _).mono ?_; rintro e w' ⟨rfl, rfl⟩
    by_cases hp0 : p = 0
    · obtain rfl := HZ.out (.inl hp0)
      subst hp0
      clear HZ HM
      go_wp2_with fail
      go_ret
      exact ⟨ret_bool (by simp), b2⟩
    by_cases hq0 : q = 0
    · obtain rfl := HZ.out (.inr hq0)
      subst hq0
      clear HZ HM
      have z1 : ((p : Int) == 0) = false := by rw [beq_eq_false_iff_ne]; omega
      go_wp2_with fail
      go_ret
      exact ⟨ret_bool (by simp), b2⟩
    · have hm := HM.out hp0 hq0
      have z1 : ((p : Int) == 0) = false := by rw [beq_eq_false_iff_ne]; omega
      have z2 : ((q : Int) == 0) = false := by rw [beq_eq_false_iff_ne]; omega
      clear HZ HM
      have HF := Lib.hid hm
      clear hm
      go_wp2_with fail
      refine (HJ.out _).mono ?_; rintro e w3 ⟨rfl, bb⟩
      have b3 := b2.grown (Below.grownBy bb) b2.size (by simp)
      clear b2 bb
      go_wp2_with fail
      refine (HO.out _).mono ?_; rintro e w' ⟨rfl, rfl⟩
      go_wp2_with fail
      refine (HO1.out _).mono ?_; rintro e w' ⟨rfl, rfl⟩
      go_wp2_with fail
      refine (HO2.out _).mono ?_; rintro e w' ⟨rfl, rfl⟩
      go_wp2_with fail
      all_goals (go_ret; exact ⟨ret_bool (by have := HF.out; simp; omega), b3⟩)
end Go.Proofs.Ytfbflokkjgbabaa
