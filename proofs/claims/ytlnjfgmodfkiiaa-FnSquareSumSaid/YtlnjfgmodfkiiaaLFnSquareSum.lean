/- The walk of FnSquareSum: for every code the law returns true and nothing that was there is changed. No conditions. -/
import Derived.Test.YtlnjfgmodfkiiaaDraw3
import Derived.Test.YtlnjfgmodfkiiaaSquare3
namespace Go.Proofs.Ytlnjfgmodfkiiaa
open Go.RowKit
theorem sq_odd : ∀ k : Nat, k < 16 → k % 2 = 1 → sqTo k 16 * sqTo k 16 % 97 = 32 * pw 8 (4 * k) % 97 := by decide +kernel
theorem sq_zero : sqTo 0 16 = 16 := by decide +kernel
set_option maxHeartbeats 1000000 in
theorem law_FnSquareSum (w : World) (a : Option Addr) (n c : Nat) (bs : List Int) (h : Rdb w (.slice a n c) bs) :
    Calls Try.prog 6 #[.slice a n c] w fun e w' => e = .returned (.bool true) ∧ Below w.heap.size w w' := by
  have HN := Lib.hid (drawSquareSum_any w _ bs h)
  clear h
  by_cases hn : 1048576 < n
  · clear HN
    go_enter Try.func6, Try.ntmps6
    go_wp2
    go_ret
    exact ⟨rfl, Below.refl _ _⟩
  go_enter Try.func6, Try.ntmps6
  go_wp2_with fail
  refine HN.out.mono ?_; rintro e w1 ⟨x, rfl, b1⟩
  clear HN
  by_cases hx : 0 ≤ x ∧ x ≤ 15
  · obtain ⟨h0, h1⟩ := hx
    obtain ⟨x, rfl⟩ := Int.eq_ofNat_of_zero_le h0
    have k1 : x ≤ 15 := by omega
    obtain ⟨s0, s1⟩ := sqTo_bd x 16
    have HS := Lib.hid (fun W : World => specSquare_yes x W k1)
    have HI := Lib.hid (fun W : World => implSquare_yes x W k1)
    have HR := Lib.hid (fun W : World => implRoot16_any W)
    have HO := Lib.hid (sq_odd x (by omega))
    have HZ := Lib.hid (show x = 0 → sqTo x 16 = 16 by rintro rfl; exact sq_zero)
    obtain ⟨N, hN⟩ : ∃ N, N = sqTo x 16 := ⟨_, rfl⟩
    rw [← hN] at s0 s1 HS HI HO HZ
    clear hN
    by_cases hodd : x % 2 = 1
    · have HO := Lib.hid (HO.out hodd)
      have hodd' : (x : Int) % 2 = 1 := by omega
      have m0 := Int.mul_nonneg s0 s0
      have m1 : N * N ≤ 96 * 96 := Int.mul_le_mul s1 s1 s0 (by omega)
      have p0 := pw_nonneg 8 (4 * x)
      have p1 := pw_lt 8 (4 * x)
      have HP := Lib.hid (fun W : World => raised_any 8 (4 * x) W (by omega) (by omega) (by omega))
      rw [show ((4 * x : Nat) : Int) = 4 * (x : Int) by omega] at HP
      obtain ⟨P, hP⟩ : ∃ P, P = pw 8 (4 * x) := ⟨_, rfl⟩
      rw [← hP] at p0 p1 HP HO
      clear hP HZ
      go_wp2_with (first | (go_at_call 19; refine (HI.out _).mono ?_; rintro e w' ⟨rfl, rfl⟩) | (go_at_call 20; refine (HS.out _).mono ?_; rintro e w' ⟨rfl, rfl⟩) | (go_at_call 16; refine (HR.out _).mono ?_; rintro e w' ⟨rfl, rfl⟩) | (go_at_call 14; refine (HP.out _).mono ?_; rintro e w' ⟨rfl, rfl⟩))
      go_ret
      exact ⟨ret_bool (by simp [HO.out]), b1⟩
    · have hodd' : (x : Int) % 2 = 0 := by omega
      clear HO hodd
      by_cases hz : x = 0
      · subst hz
        obtain rfl := HZ.out rfl
        clear HZ
        go_wp2_with (first | (go_at_call 19; refine (HI.out _).mono ?_; rintro e w' ⟨rfl, rfl⟩) | (go_at_call 20; refine (HS.out _).mono ?_; rintro e w' ⟨rfl, rfl⟩))
        go_ret
        exact ⟨ret_bool (by simp), b1⟩
      · clear HZ
        go_wp2_with (first | (go_at_call 19; refine (HI.out _).mono ?_; rintro e w' ⟨rfl, rfl⟩) | (go_at_call 20; refine (HS.out _).mono ?_; rintro e w' ⟨rfl, rfl⟩))
        go_ret
        exact ⟨ret_bool (by simp), b1⟩
  · have hx' : x < 0 ∨ 15 < x := by omega
    have HX := Lib.hid hx'
    clear hx hx'
    go_wp2_with (first | (go_at_call 19; refine (implSquare_no x _ HX.out).mono ?_; rintro e w' ⟨rfl, rfl⟩) | (go_at_call 20; refine (specSquare_no x _ HX.out).mono ?_; rintro e w' ⟨rfl, rfl⟩))
    go_ret
    exact ⟨rfl, b1⟩
end Go.Proofs.Ytlnjfgmodfkiiaa
