/- Contracts of the functions of chapter 3 on numbers: inRange, mod, raise, power, raised, order, OrderBy, root, RootOf, SquareSum. -/
import Derived.Test.YtlnjfgmodfkiiaaRng
import Derived.Test.YtlnjfgmodfkiiaaRests
namespace Go.Proofs.Ytlnjfgmodfkiiaa
open Go.RowKit
theorem rem_yes (n : Nat) (h3 : 96 % n = 0) : ((96 : Int) % (n : Int) != 0) = false := by
  have : (96 : Int) % (n : Int) = ((96 % n : Nat) : Int) := by simp
  rw [this, h3]; rfl
theorem mod_any (x : Int) (w : World) (_h1 : 0 ≤ x) (_h2 : x ≤ 1000000000) :
    Calls Try.prog 35 #[.int .i64 x] w fun e w' => e = .returned (.int .i64 (x % 97)) ∧ w = w' := by
  go_enter Try.func35, Try.ntmps35
  go_wp2
  go_ret
  exact ⟨ret_int (by omega), rfl⟩
theorem raise_any (x : Int) (n : Nat) (w : World) (h0 : 0 ≤ x) (h1 : x ≤ 96) (_hn : n ≤ 1000000) :
    Calls Try.prog 36 #[.int .i64 x, .int .i64 n] w fun e w' => e = .returned (.int .i64 (pw x n)) ∧ w = w' := by
  go_enter Try.func36, Try.ntmps36
  go_wp2
  go_loop [1, 5] (fun i out => ∃ k : Nat, k ≤ n ∧ i = .int .i64 ((n - k : Nat) : Int) ∧ out = .int .i64 (pw x k)) (fun i _ => (intOf i).toNat)
  case atStart => exact ⟨0, Nat.zero_le _, rfl, rfl⟩
  case round =>
    obtain ⟨k, hk, rfl, rfl⟩ := hrel
    obtain ⟨b0, b1⟩ := pw_mul_bd x k h0 h1
    by_cases hlt : k < n
    · have hp : (0 : Int) < ((n - k : Nat) : Int) := by omega
      go_wp2_with (go_at_call 35; refine (mod_any _ _ (by omega) (by omega)).mono ?_; rintro e w' ⟨rfl, rfl⟩)
      go_round
      case rel => exact ⟨k + 1, by omega, by go_num, rfl⟩
      case measure => simp [intOf]; omega
    · have e : k = n := by omega
      subst e
      have hp : ((k - k : Nat) : Int) = 0 := by omega
      rw [hp]
      go_wp2
      go_ret
      exact ⟨rfl, rfl⟩
theorem power_any (x : Int) (n : Nat) (w : World) (h0 : 0 ≤ x) (h1 : x ≤ 96) (_hn : n ≤ 1000000) :
    Calls Try.prog 34 #[.int .i64 x, .int .i64 n] w fun e w' => e = .returned (.int .i64 (pw x n)) ∧ w = w' := by
  go_enter Try.func34, Try.ntmps34
  go_wp2
  go_loop [5, 7] (fun out i => ∃ k : Nat, k ≤ n ∧ i = .int .i64 k ∧ out = .int .i64 (pw x k)) (fun _ i => n - (intOf i).toNat)
  case atStart => exact ⟨0, Nat.zero_le _, rfl, rfl⟩
  case round =>
    obtain ⟨k, hk, rfl, rfl⟩ := hrel
    obtain ⟨b0, b1⟩ := pw_mul_bd x k h0 h1
    by_cases hlt : k < n
    · go_wp2
      go_round
      case rel => exact ⟨k + 1, by omega, by go_num, rfl⟩
      case measure => simp [intOf]; omega
    · have e : k = n := by omega
      subst e
      go_wp2
      go_ret
      exact ⟨rfl, rfl⟩
theorem raised_any (x : Int) (n : Nat) (w : World) (h0 : 0 ≤ x) (h1 : x ≤ 96) (_hn : n ≤ 1000000) :
    Calls Try.prog 14 #[.int .i64 x, .int .i64 n] w fun e w' => e = .returned (.int .i64 (pw x n)) ∧ w = w' := by
  go_enter Try.func14, Try.ntmps14
  go_wp2
  go_loop [1, 5] (fun i out => ∃ k : Nat, k ≤ n ∧ i = .int .i64 ((n - k : Nat) : Int) ∧ out = .int .i64 (pw x k)) (fun i _ => (intOf i).toNat)
  case atStart => exact ⟨0, Nat.zero_le _, rfl, rfl⟩
  case round =>
    obtain ⟨k, hk, rfl, rfl⟩ := hrel
    obtain ⟨b0, b1⟩ := pw_mul_bd x k h0 h1
    by_cases hlt : k < n
    · have hp : (0 : Int) < ((n - k : Nat) : Int) := by omega
      go_wp2
      go_round
      case rel => exact ⟨k + 1, by omega, by go_num, rfl⟩
      case measure => simp [intOf]; omega
    · have e : k = n := by omega
      subst e
      have hp : ((k - k : Nat) : Int) = 0 := by omega
      rw [hp]
      go_wp2
      go_ret
      exact ⟨rfl, rfl⟩
theorem order_any (x : Int) (w : World) (h0 : 1 ≤ x) (h1 : x ≤ 96) :
    Calls Try.prog 32 #[.int .i64 x] w fun e w' => e = .returned (.int .i64 (ordN x)) ∧ w = w' := by
  obtain ⟨o1, o2, o3, o4, _⟩ := ord_spec x h0 h1
  have O3 := Lib.hid o3
  have O4 := Lib.hid o4
  clear o3 o4
  go_enter Try.func32, Try.ntmps32
  go_wp2
  go_loop [3] (fun i => ∃ k : Nat, 1 ≤ k ∧ k ≤ ordN x ∧ i = .int .i64 k) (fun i => ordN x - (intOf i).toNat)
  case atStart => exact ⟨1, Nat.le_refl _, o1, rfl⟩
  case round =>
    obtain ⟨k, hk1, hk, rfl⟩ := hrel
    by_cases hlt : k < ordN x
    · have hne : (pw x k != 1) = true := by simpa using O4.out k hlt (by omega)
      go_wp2_with (go_at_call 36; refine (raise_any _ k _ (by omega) h1 (by omega)).mono ?_; rintro e w' ⟨rfl, rfl⟩)
      go_round
      case rel => exact ⟨k + 1, by omega, by omega, by go_num⟩
      case measure => simp [intOf]; omega
    · have e : k = ordN x := by omega
      have hne : (pw x k != 1) = false := by rw [e]; simpa using O3.out
      have HE := Lib.hid e
      clear e
      go_wp2_with (go_at_call 36; refine (raise_any _ k _ (by omega) h1 (by omega)).mono ?_; rintro e w' ⟨rfl, rfl⟩)
      go_ret
      exact ⟨ret_int (by rw [HE.out]), rfl⟩
theorem specOrder_yes (x : Int) (w : World) (h0 : 1 ≤ x) (h1 : x ≤ 96) :
    Calls Try.prog 13 #[.int .i64 x] w fun e w' => e = .returned (.int .i64 (ordN x)) ∧ w = w' := by
  go_enter Try.func13, Try.ntmps13
  go_wp2_with (first | (go_at_call 31; refine (inRange_yes _ _ _ _ h0 h1).mono ?_; rintro e w' ⟨rfl, rfl⟩) | (go_at_call 32; refine (order_any _ _ h0 h1).mono ?_; rintro e w' ⟨rfl, rfl⟩))
  go_ret
  exact ⟨rfl, rfl⟩
theorem specOrder_no (x : Int) (w : World) (h : x < 1 ∨ 96 < x) :
    Calls Try.prog 13 #[.int .i64 x] w fun e w' => e = .returned (.int .i64 (-1)) ∧ w = w' := by
  go_enter Try.func13, Try.ntmps13
  go_wp2_with (go_at_call 31; refine (inRange_no _ _ _ _ h).mono ?_; rintro e w' ⟨rfl, rfl⟩)
  go_ret
  exact ⟨rfl, rfl⟩
theorem implOrder_yes (x : Int) (w : World) (h0 : 1 ≤ x) (h1 : x ≤ 96) :
    Calls Try.prog 12 #[.int .i64 x] w fun e w' => e = .returned (.int .i64 (ordN x)) ∧ w = w' := by
  obtain ⟨o1, o2, o3, o4, _⟩ := ord_spec x h0 h1
  have O3 := Lib.hid o3
  have O4 := Lib.hid o4
  clear o3 o4
  go_enter Try.func12, Try.ntmps12
  go_wp2
  go_loop [3, 4] (fun i a => ∃ k : Nat, 1 ≤ k ∧ k ≤ ordN x ∧ i = .int .i64 k ∧ a = .int .i64 (pw x k)) (fun i _ => ordN x - (intOf i).toNat)
  case atStart => exact ⟨1, Nat.le_refl _, o1, rfl, by simp only [pw]; congr 1; omega⟩
  case round =>
    obtain ⟨k, hk1, hk, rfl, rfl⟩ := hrel
    obtain ⟨b0, b1⟩ := pw_mul_bd x k (by omega) h1
    by_cases hlt : k < ordN x
    · have hne : (pw x k != 1) = true := by simpa using O4.out k hlt (by omega)
      go_wp2
      go_round
      case rel => exact ⟨k + 1, by omega, by omega, by go_num, rfl⟩
      case measure => simp [intOf]; omega
    · have e : k = ordN x := by omega
      have hne : (pw x k != 1) = false := by rw [e]; simpa using O3.out
      have HE := Lib.hid e
      clear e
      go_wp2
      go_ret
      exact ⟨ret_int (by rw [HE.out]), rfl⟩
theorem implOrder_no (x : Int) (w : World) (h : x < 1 ∨ 96 < x) :
    Calls Try.prog 12 #[.int .i64 x] w fun e w' => e = .returned (.int .i64 (-1)) ∧ w = w' := by
  by_cases h1 : x < 1
  · clear h
    go_enter Try.func12, Try.ntmps12
    go_wp2
    go_ret
    exact ⟨rfl, rfl⟩
  · have h2 : 97 ≤ x := by omega
    clear h
    go_enter Try.func12, Try.ntmps12
    go_wp2
    go_ret
    exact ⟨rfl, rfl⟩
theorem root_any (n : Nat) (w : World) (h1 : n ≤ 96) (h2 : n ≠ 0) (h3 : 96 % n = 0) :
    Calls Try.prog 33 #[.int .i64 n] w fun e w' => e = .returned (.int .i64 (rootN n)) ∧ w = w' := by
  obtain ⟨r1, r2, r3, r4⟩ := root_spec n h1 h2 h3
  have R3 := Lib.hid r3
  have R4 := Lib.hid r4
  have H3 := Lib.hid h3
  clear r3 r4 h3
  go_enter Try.func33, Try.ntmps33
  go_wp2
  go_loop [3] (fun i => ∃ k : Nat, 1 ≤ k ∧ k ≤ rootN n ∧ i = .int .i64 k) (fun i => rootN n - (intOf i).toNat)
  case atStart => exact ⟨1, Nat.le_refl _, r1, rfl⟩
  case round =>
    obtain ⟨k, hk1, hk, rfl⟩ := hrel
    by_cases hlt : k < rootN n
    · have hne : ((ordN (k : Int) : Int) != (n : Int)) = true := by have := R4.out k hlt (by omega); simp; omega
      go_wp2_with (go_at_call 32; refine (order_any (k : Int) _ (by omega) (by omega)).mono ?_; rintro e w' ⟨rfl, rfl⟩)
      go_round
      case rel => exact ⟨k + 1, by omega, by omega, by go_num⟩
      case measure => simp [intOf]; omega
    · have e : k = rootN n := by omega
      have hne : ((ordN (k : Int) : Int) != (n : Int)) = false := by rw [e, R3.out]; simp
      have HE := Lib.hid e
      clear e
      go_wp2_with (go_at_call 32; refine (order_any (k : Int) _ (by omega) (by omega)).mono ?_; rintro e w' ⟨rfl, rfl⟩)
      go_ret
      exact ⟨ret_int (by rw [HE.out]), rfl⟩
theorem specRoot_yes (n : Nat) (w : World) (h1 : n ≤ 96) (h2 : n ≠ 0) (h3 : 96 % n = 0) :
    Calls Try.prog 17 #[.int .i64 n] w fun e w' => e = .returned (.int .i64 (rootN n)) ∧ w = w' := by
  have H3 := Lib.hid h3
  have hr := rem_yes n h3
  clear h3
  go_enter Try.func17, Try.ntmps17
  go_wp2_with (first | (go_at_call 31; refine (inRange_yes _ _ _ _ (by omega) (by omega)).mono ?_; rintro e w' ⟨rfl, rfl⟩) | (go_at_call 33; refine (root_any n _ h1 h2 H3.out).mono ?_; rintro e w' ⟨rfl, rfl⟩))
  go_ret
  exact ⟨rfl, rfl⟩
theorem specRoot_no (n : Int) (w : World) (h : n < 1 ∨ 96 < n ∨ 96 % n ≠ 0) :
    Calls Try.prog 17 #[.int .i64 n] w fun e w' => e = .returned (.int .i64 (-1)) ∧ w = w' := by
  by_cases h1 : n < 1 ∨ 96 < n
  · clear h
    go_enter Try.func17, Try.ntmps17
    go_wp2_with (go_at_call 31; refine (inRange_no _ _ _ _ h1).mono ?_; rintro e w' ⟨rfl, rfl⟩)
    go_ret
    exact ⟨rfl, rfl⟩
  · have a1 : 1 ≤ n := by omega
    have a2 : n ≤ 96 := by omega
    have hr : ((96 : Int) % n != 0) = true := by simp; omega
    clear h h1
    go_enter Try.func17, Try.ntmps17
    go_wp2_with (go_at_call 31; refine (inRange_yes _ _ _ _ a1 a2).mono ?_; rintro e w' ⟨rfl, rfl⟩)
    go_ret
    exact ⟨rfl, rfl⟩
theorem implRoot_yes (n : Nat) (w : World) (h1 : n ≤ 96) (h2 : n ≠ 0) (h3 : 96 % n = 0) :
    Calls Try.prog 16 #[.int .i64 n] w fun e w' => e = .returned (.int .i64 (rootN n)) ∧ w = w' := by
  obtain ⟨r1, r2, r3, r4⟩ := root_spec n h1 h2 h3
  have R3 := Lib.hid r3
  have R4 := Lib.hid r4
  have hr := rem_yes n h3
  clear h3 r3 r4
  go_enter Try.func16, Try.ntmps16
  go_wp2
  go_loop [3] (fun i => ∃ k : Nat, 1 ≤ k ∧ k ≤ rootN n ∧ i = .int .i64 k) (fun i => rootN n - (intOf i).toNat)
  case atStart => exact ⟨1, Nat.le_refl _, r1, rfl⟩
  case round =>
    obtain ⟨k, hk1, hk, rfl⟩ := hrel
    by_cases hlt : k < rootN n
    · have hne : ((ordN (k : Int) : Int) == (n : Int)) = false := by have := R4.out k hlt (by omega); simp; omega
      go_wp2_with (go_at_call 12; refine (implOrder_yes (k : Int) _ (by omega) (by omega)).mono ?_; rintro e w' ⟨rfl, rfl⟩)
      go_round
      case rel => exact ⟨k + 1, by omega, by omega, by go_num⟩
      case measure => simp [intOf]; omega
    · have e : k = rootN n := by omega
      have hne : ((ordN (k : Int) : Int) == (n : Int)) = true := by rw [e, R3.out]; simp
      have HE := Lib.hid e
      clear e
      go_wp2_with (go_at_call 12; refine (implOrder_yes (k : Int) _ (by omega) (by omega)).mono ?_; rintro e w' ⟨rfl, rfl⟩)
      go_ret
      exact ⟨ret_int (by rw [HE.out]), rfl⟩
theorem implRoot_no (n : Int) (w : World) (h : n < 1 ∨ 96 < n ∨ 96 % n ≠ 0) :
    Calls Try.prog 16 #[.int .i64 n] w fun e w' => e = .returned (.int .i64 (-1)) ∧ w = w' := by
  by_cases h1 : n < 1
  · clear h
    go_enter Try.func16, Try.ntmps16
    go_wp2
    go_ret
    exact ⟨rfl, rfl⟩
  · have a1 : 1 ≤ n := by omega
    have hr : ((96 : Int) % n != 0) = true := by
      rcases h with h | h | h
      · omega
      · have : (96 : Int) % n = 96 := Int.emod_eq_of_lt (by omega) h
        rw [this]; rfl
      · simpa using h
    clear h h1
    go_enter Try.func16, Try.ntmps16
    go_wp2
    go_ret
    exact ⟨rfl, rfl⟩
end Go.Proofs.Ytlnjfgmodfkiiaa
