/- The walk of FnRootOf: for every code the law returns true and nothing that was there is changed. No conditions. -/
import Derived.Test.YtlnjfgmodfkiiaaDraw3
import Derived.Test.YtlnjfgmodfkiiaaNum3
namespace Go.Proofs.Ytlnjfgmodfkiiaa
open Go.RowKit
theorem ord_one : ordN 1 = 1 := ord_eq 1 1 (by omega) (by omega) (by omega) (by decide +kernel) (by omega)
theorem root_one : rootN 1 = 1 := by
  obtain ⟨r1, _, r3, r4⟩ := root_spec 1 (by omega) (by omega) (by omega)
  by_cases h : 1 < rootN 1
  · exact absurd ord_one (r4 1 h (by omega))
  · omega
set_option maxHeartbeats 1000000 in
theorem law_FnRootOf (w : World) (a : Option Addr) (n c : Nat) (bs : List Int) (h : Rdb w (.slice a n c) bs) :
    Calls Try.prog 5 #[.slice a n c] w fun e w' => e = .returned (.bool true) ∧ Below w.heap.size w w' := by
  have HN := Lib.hid (drawRootOf_any w _ bs h)
  clear h
  by_cases hn : 1048576 < n
  · clear HN
    go_enter Try.func5, Try.ntmps5
    go_wp2
    go_ret
    exact ⟨rfl, Below.refl _ _⟩
  go_enter Try.func5, Try.ntmps5
  go_wp2_with fail
  refine HN.out.mono ?_; rintro e w1 ⟨x, rfl, b1⟩
  clear HN
  by_cases hx : 1 ≤ x ∧ x ≤ 96 ∧ 96 % x = 0
  · obtain ⟨h0, h1, h2⟩ := hx
    obtain ⟨x, rfl⟩ := Int.eq_ofNat_of_zero_le (show 0 ≤ x by omega)
    have k1 : x ≤ 96 := by omega
    have k2 : x ≠ 0 := by omega
    have k3 : 96 % x = 0 := by have h3 : ((96 % x : Nat) : Int) = 0 := h2; omega
    obtain ⟨r1, r2, r3, r4⟩ := root_spec x k1 k2 k3
    have R3 := Lib.hid r3
    have HO := Lib.hid (show x = 1 → rootN x = 1 by rintro rfl; exact root_one)
    have HS := Lib.hid (fun W : World => specRoot_yes x W k1 k2 k3)
    have HI := Lib.hid (fun W : World => implRoot_yes x W k1 k2 k3)
    have HR := Lib.hid (fun W : World => implOrder_yes (rootN x : Int) W (by omega) (by omega))
    rw [R3.out] at HR
    clear r3 r4 h2 k3 R3
    obtain ⟨N, hN⟩ : ∃ N, N = rootN x := ⟨_, rfl⟩
    rw [← hN] at r1 r2 HS HI HO HR
    clear hN
    by_cases hx1 : 1 < x
    · clear HO
      go_wp2_with (first | (go_at_call 16; refine (HI.out _).mono ?_; rintro e w' ⟨rfl, rfl⟩) | (go_at_call 17; refine (HS.out _).mono ?_; rintro e w' ⟨rfl, rfl⟩) | (go_at_call 12; refine (HR.out _).mono ?_; rintro e w' ⟨rfl, rfl⟩))
      go_ret
      exact ⟨ret_bool (by simp), b1⟩
    · obtain rfl : x = 1 := by omega
      obtain rfl := HO.out rfl
      clear HO
      go_wp2_with (first | (go_at_call 16; refine (HI.out _).mono ?_; rintro e w' ⟨rfl, rfl⟩) | (go_at_call 17; refine (HS.out _).mono ?_; rintro e w' ⟨rfl, rfl⟩) | (go_at_call 12; refine (HR.out _).mono ?_; rintro e w' ⟨rfl, rfl⟩))
      go_ret
      exact ⟨ret_bool (by simp), b1⟩
  · have hx' : x < 1 ∨ 96 < x ∨ 96 % x ≠ 0 := by omega
    have HX := Lib.hid hx'
    clear hx hx'
    go_wp2_with (first | (go_at_call 16; refine (implRoot_no x _ HX.out).mono ?_; rintro e w' ⟨rfl, rfl⟩) | (go_at_call 17; refine (specRoot_no x _ HX.out).mono ?_; rintro e w' ⟨rfl, rfl⟩))
    go_ret
    exact ⟨rfl, b1⟩
end Go.Proofs.Ytlnjfgmodfkiiaa
