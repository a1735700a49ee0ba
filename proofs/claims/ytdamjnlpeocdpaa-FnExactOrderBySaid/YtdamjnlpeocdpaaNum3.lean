/- Contracts of the functions of chapter 3 on numbers: inRange, mod, raise, power, raised, order, OrderBy, root, RootOf, SquareSum. -/
import Derived.Test.YtdamjnlpeocdpaaBase
import Derived.Test.YtdamjnlpeocdpaaRests
namespace Go.Proofs.Ytdamjnlpeocdpaa
open Go.RowKit
theorem rem_yes (n : Nat) (h3 : 96 % n = 0) : ((96 : Int) % (n : Int) != 0) = false := by
  have : (96 : Int) % (n : Int) = ((96 % n : Nat) : Int) := by simp
  rw [this, h3]; rfl
theorem inRange_yes (n lo hi : Int) (w : World) (_h1 : lo ≤ n) (_h2 : n ≤ hi) :
    Calls Try.prog 6 #[.int .i64 n, .int .i64 lo, .int .i64 hi] w fun e w' => e = .returned (.bool true) ∧ w = w' := by
  go_enter Try.func6, Try.ntmps6
  go_wp2
  go_ret
  exact ⟨by simp [*], rfl⟩
theorem inRange_no (n lo hi : Int) (w : World) (h : n < lo ∨ hi < n) :
    Calls Try.prog 6 #[.int .i64 n, .int .i64 lo, .int .i64 hi] w fun e w' => e = .returned (.bool false) ∧ w = w' := by
  by_cases h1 : lo ≤ n
  · have h2 : hi < n := by omega
    clear h
    go_enter Try.func6, Try.ntmps6
    go_wp2
    go_ret
    exact ⟨by simp [*], rfl⟩
  · clear h
    go_enter Try.func6, Try.ntmps6
    go_wp2
    go_ret
    exact ⟨by simp [*], rfl⟩
theorem mod_any (x : Int) (w : World) (_h1 : 0 ≤ x) (_h2 : x ≤ 1000000000) :
    Calls Try.prog 9 #[.int .i64 x] w fun e w' => e = .returned (.int .i64 (x % 97)) ∧ w = w' := by
  go_enter Try.func9, Try.ntmps9
  go_wp2
  go_ret
  exact ⟨ret_int (by omega), rfl⟩
theorem raise_any (x : Int) (n : Nat) (w : World) (h0 : 0 ≤ x) (h1 : x ≤ 96) (_hn : n ≤ 1000000) :
    Calls Try.prog 8 #[.int .i64 x, .int .i64 n] w fun e w' => e = .returned (.int .i64 (pw x n)) ∧ w = w' := by
  go_enter Try.func8, Try.ntmps8
  go_wp2
  go_loop [1, 5] (fun i out => ∃ k : Nat, k ≤ n ∧ i = .int .i64 ((n - k : Nat) : Int) ∧ out = .int .i64 (pw x k)) (fun i _ => (intOf i).toNat)
  case atStart => exact ⟨0, Nat.zero_le _, rfl, rfl⟩
  case round =>
    obtain ⟨k, hk, rfl, rfl⟩ := hrel
    obtain ⟨b0, b1⟩ := pw_mul_bd x k h0 h1
    by_cases hlt : k < n
    · have hp : (0 : Int) < ((n - k : Nat) : Int) := by omega
      go_wp2_with (go_at_call 9; refine (mod_any _ _ (by omega) (by omega)).mono ?_; rintro e w' ⟨rfl, rfl⟩)
      go_round
      case rel => exact ⟨k + 1, by omega, by go_num, rfl⟩
      case measure => simp [intOf]; omega
    · have e : k = n := by omega
      subst e
      have hp : ((k - k : Nat) : Int) = 0 := by omega
      rw [hp]
      go_wp2
      go_ret
      exact ⟨rfl, rfl⟩
theorem order_any (x : Int) (w : World) (h0 : 1 ≤ x) (h1 : x ≤ 96) :
    Calls Try.prog 7 #[.int .i64 x] w fun e w' => e = .returned (.int .i64 (ordN x)) ∧ w = w' := by
  obtain ⟨o1, o2, o3, o4, _⟩ := ord_spec x h0 h1
  have O3 := Lib.hid o3
  have O4 := Lib.hid o4
  clear o3 o4
  go_enter Try.func7, Try.ntmps7
  go_wp2
  go_loop [3] (fun i => ∃ k : Nat, 1 ≤ k ∧ k ≤ ordN x ∧ i = .int .i64 k) (fun i => ordN x - (intOf i).toNat)
  case atStart => exact ⟨1, Nat.le_refl _, o1, rfl⟩
  case round =>
    obtain ⟨k, hk1, hk, rfl⟩ := hrel
    by_cases hlt : k < ordN x
    · have hne : (pw x k != 1) = true := by simpa using O4.out k hlt (by omega)
      go_wp2_with (go_at_call 8; refine (raise_any _ k _ (by omega) h1 (by omega)).mono ?_; rintro e w' ⟨rfl, rfl⟩)
      go_round
      case rel => exact ⟨k + 1, by omega, by omega, by go_num⟩
      case measure => simp [intOf]; omega
    · have e : k = ordN x := by omega
      have hne : (pw x k != 1) = false := by rw [e]; simpa using O3.out
      have HE := Lib.hid e
      clear e
      go_wp2_with (go_at_call 8; refine (raise_any _ k _ (by omega) h1 (by omega)).mono ?_; rintro e w' ⟨rfl, rfl⟩)
      go_ret
      exact ⟨ret_int (by rw [HE.out]), rfl⟩
theorem specOrder_yes (x : Int) (w : World) (h0 : 1 ≤ x) (h1 : x ≤ 96) :
    Calls Try.prog 4 #[.int .i64 x] w fun e w' => e = .returned (.int .i64 (ordN x)) ∧ w = w' := by
  go_enter Try.func4, Try.ntmps4
  go_wp2_with (first | (go_at_call 6; refine (inRange_yes _ _ _ _ h0 h1).mono ?_; rintro e w' ⟨rfl, rfl⟩) | (go_at_call 7; refine (order_any _ _ h0 h1).mono ?_; rintro e w' ⟨rfl, rfl⟩))
  go_ret
  exact ⟨rfl, rfl⟩
theorem specOrder_no (x : Int) (w : World) (h : x < 1 ∨ 96 < x) :
    Calls Try.prog 4 #[.int .i64 x] w fun e w' => e = .returned (.int .i64 (-1)) ∧ w = w' := by
  go_enter Try.func4, Try.ntmps4
  go_wp2_with (go_at_call 6; refine (inRange_no _ _ _ _ h).mono ?_; rintro e w' ⟨rfl, rfl⟩)
  go_ret
  exact ⟨rfl, rfl⟩
theorem implOrder_yes (x : Int) (w : World) (h0 : 1 ≤ x) (h1 : x ≤ 96) :
    Calls Try.prog 5 #[.int .i64 x] w fun e w' => e = .returned (.int .i64 (ordN x)) ∧ w = w' := by
  obtain ⟨o1, o2, o3, o4, _⟩ := ord_spec x h0 h1
  have O3 := Lib.hid o3
  have O4 := Lib.hid o4
  clear o3 o4
  go_enter Try.func5, Try.ntmps5
  go_wp2
  go_loop [3, 4] (fun i a => ∃ k : Nat, 1 ≤ k ∧ k ≤ ordN x ∧ i = .int .i64 k ∧ a = .int .i64 (pw x k)) (fun i _ => ordN x - (intOf i).toNat)
  case atStart => exact ⟨1, Nat.le_refl _, o1, rfl, by simp only [pw]; congr 1; omega⟩
  case round =>
    obtain ⟨k, hk1, hk, rfl, rfl⟩ := hrel
    obtain ⟨b0, b1⟩ := pw_mul_bd x k (by omega) h1
    by_cases hlt : k < ordN x
    · have hne : (pw x k != 1) = true := by simpa using O4.out k hlt (by omega)
      go_wp2
      go_round
      case rel => exact ⟨k + 1, by omega, by omega, by go_num, rfl⟩
      case measure => simp [intOf]; omega
    · have e : k = ordN x := by omega
      have hne : (pw x k != 1) = false := by rw [e]; simpa using O3.out
      have HE := Lib.hid e
      clear e
      go_wp2
      go_ret
      exact ⟨ret_int (by rw [HE.out]), rfl⟩
theorem implOrder_no (x : Int) (w : World) (h : x < 1 ∨ 96 < x) :
    Calls Try.prog 5 #[.int .i64 x] w fun e w' => e = .returned (.int .i64 (-1)) ∧ w = w' := by
  by_cases h1 : x < 1
  · clear h
    go_enter Try.func5, Try.ntmps5
    go_wp2
    go_ret
    exact ⟨rfl, rfl⟩
  · have h2 : 97 ≤ x := by omega
    clear h
    go_enter Try.func5, Try.ntmps5
    go_wp2
    go_ret
    exact ⟨rfl, rfl⟩
end Go.Proofs.Ytdamjnlpeocdpaa
