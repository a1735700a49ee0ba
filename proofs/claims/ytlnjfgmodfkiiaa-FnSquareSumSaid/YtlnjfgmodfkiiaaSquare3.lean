/- SquareSum: the reference and the program return the same number. No conditions. -/
import Derived.Test.YtlnjfgmodfkiiaaNum3
namespace Go.Proofs.Ytlnjfgmodfkiiaa
open Go.RowKit
theorem root16 : rootN 16 = 8 := by
  unfold rootN; rw [← rootGo_eq]; decide +kernel
theorem pw16 : pw 8 16 = 1 := by decide +kernel
/-- The running sum, as a rest. -/
def sqTo (k : Nat) : Nat → Int
  | 0 => 0
  | m + 1 => (sqTo k m + pw 8 (m * m * k % 16)) % 97
/-- The running sum, not as a rest. -/
def sqRaw (k : Nat) : Nat → Int
  | 0 => 0
  | m + 1 => sqRaw k m + pw 8 (m * m * k)
theorem sqTo_bd (k m : Nat) : 0 ≤ sqTo k m ∧ sqTo k m ≤ 96 := by cases m <;> simp [sqTo] <;> omega
theorem sqRaw_bd (k m : Nat) : 0 ≤ sqRaw k m ∧ sqRaw k m ≤ 96 * m := by
  induction m with
  | zero => simp [sqRaw]
  | succ m ih => have a := pw_nonneg 8 (m * m * k); have b := pw_lt 8 (m * m * k); simp only [sqRaw]; omega
theorem sq_eq (k m : Nat) : sqRaw k m % 97 = sqTo k m := by
  induction m with
  | zero => rfl
  | succ m ih => simp only [sqRaw, sqTo]; rw [pw_mod 8 16 (m * m * k) pw16, ← ih]; omega
theorem sq_mul (m k : Nat) (hm : m ≤ 16) (hk : k ≤ 15) : m * m ≤ 256 ∧ m * m * k ≤ 3840 := by
  have h1 : m * m ≤ 16 * 16 := Nat.mul_le_mul hm hm
  exact ⟨by omega, Nat.le_trans (Nat.mul_le_mul h1 hk) (by omega)⟩
theorem root16_any (w : World) : Calls Try.prog 33 #[.int .i64 16] w fun e w' => e = .returned (.int .i64 8) ∧ w = w' := by
  have h := root_any 16 w (by omega) (by omega) (by omega)
  rw [root16] at h
  exact h
theorem specSquare_yes (k : Nat) (w : World) (hk : k ≤ 15) :
    Calls Try.prog 20 #[.int .i64 (k : Int)] w fun e w' => e = .returned (.int .i64 (sqTo k 16)) ∧ w = w' := by
  go_enter Try.func20, Try.ntmps20
  go_wp2_with (go_at_call 31; refine (inRange_yes _ _ _ _ (by omega) (by omega)).mono ?_; rintro e w' ⟨rfl, rfl⟩)
  go_loop [3, 4] (fun s i => ∃ m : Nat, m ≤ 16 ∧ i = .int .i64 m ∧ s = .int .i64 (sqTo k m)) (fun _ i => 16 - (intOf i).toNat)
  case atStart => exact ⟨0, Nat.zero_le _, rfl, rfl⟩
  case round =>
    obtain ⟨m, hm, rfl, rfl⟩ := hrel
    obtain ⟨b0, b1⟩ := sqTo_bd k m
    obtain ⟨q, hq⟩ : ∃ q, q = m * m * k % 16 := ⟨_, rfl⟩
    have p0 := pw_nonneg 8 q
    have p1 := pw_lt 8 q
    have hq16 : q < 16 := by omega
    by_cases hlt : m < 16
    · obtain ⟨m1, m2⟩ := sq_mul m k hm hk
      have i1 : (m : Int) * (m : Int) ≤ 256 := by rw [← Int.natCast_mul]; omega
      have i2 : (m : Int) * (m : Int) * (k : Int) ≤ 3840 := by rw [← Int.natCast_mul, ← Int.natCast_mul]; omega
      have i3 : (0 : Int) ≤ (m : Int) * (m : Int) := Int.mul_nonneg (by omega) (by omega)
      have i4 : (0 : Int) ≤ (m : Int) * (m : Int) * (k : Int) := Int.mul_nonneg i3 (by omega)
      have i5 : (m : Int) * (m : Int) * (k : Int) % 16 = (q : Int) := by rw [hq, ← Int.natCast_mul, ← Int.natCast_mul]; rfl
      have HQ := Lib.hid hq
      clear hq m1 m2
      go_wp2_with (first | (go_at_call 33; refine (root16_any _).mono ?_; rintro e w' ⟨rfl, rfl⟩) | (go_at_call 36; refine (raise_any 8 q _ (by omega) (by omega) (by omega)).mono ?_; rintro e w' ⟨rfl, rfl⟩) | (go_at_call 35; refine (mod_any _ _ (by omega) (by omega)).mono ?_; rintro e w' ⟨rfl, rfl⟩))
      clear i5
      go_round
      case rel => exact ⟨m + 1, by omega, by go_num, by rw [HQ.out]; rfl⟩
      case measure => simp [intOf]; omega
    · have e : m = 16 := by omega
      subst e
      clear hq hq16 p0 p1
      go_wp2
      go_ret
      exact ⟨rfl, rfl⟩
theorem specSquare_no (k : Int) (w : World) (h : k < 0 ∨ 15 < k) :
    Calls Try.prog 20 #[.int .i64 k] w fun e w' => e = .returned (.int .i64 (-1)) ∧ w = w' := by
  go_enter Try.func20, Try.ntmps20
  go_wp2_with (go_at_call 31; refine (inRange_no _ _ _ _ h).mono ?_; rintro e w' ⟨rfl, rfl⟩)
  go_ret
  exact ⟨rfl, rfl⟩
theorem implRoot16_any (w : World) : Calls Try.prog 16 #[.int .i64 16] w fun e w' => e = .returned (.int .i64 8) ∧ w = w' := by
  have h := implRoot_yes 16 w (by omega) (by omega) (by omega)
  rw [root16] at h
  exact h
theorem implSquare_yes (k : Nat) (w : World) (hk : k ≤ 15) :
    Calls Try.prog 19 #[.int .i64 (k : Int)] w fun e w' => e = .returned (.int .i64 (sqTo k 16)) ∧ w = w' := by
  go_enter Try.func19, Try.ntmps19
  go_wp2
  go_loop [3, 4, 11] (fun s _ i => ∃ m : Nat, m ≤ 16 ∧ i = .int .i64 m ∧ s = .int .i64 (sqRaw k m)) (fun _ _ i => 16 - (intOf i).toNat)
  case atStart => exact ⟨0, Nat.zero_le _, rfl, rfl⟩
  case round =>
    obtain ⟨m, hm, rfl, rfl⟩ := hrel
    obtain ⟨b0, b1⟩ := sqRaw_bd k m
    by_cases hlt : m < 16
    · obtain ⟨m1, m2⟩ := sq_mul m k hm hk
      obtain ⟨q, hq⟩ : ∃ q, q = m * m * k := ⟨_, rfl⟩
      have p0 := pw_nonneg 8 q
      have p1 := pw_lt 8 q
      have i1 : (m : Int) * (m : Int) ≤ 256 := by rw [← Int.natCast_mul]; omega
      have i3 : (0 : Int) ≤ (m : Int) * (m : Int) := Int.mul_nonneg (by omega) (by omega)
      have i5 : (m : Int) * (m : Int) * (k : Int) = (q : Int) := by rw [hq, ← Int.natCast_mul, ← Int.natCast_mul]
      have i6 : q ≤ 3840 := by omega
      have HQ := Lib.hid hq
      clear hq m1 m2
      go_wp2_with (first | (go_at_call 16; refine (implRoot16_any _).mono ?_; rintro e w' ⟨rfl, rfl⟩) | (go_at_call 34; refine (power_any 8 q _ (by omega) (by omega) (by omega)).mono ?_; rintro e w' ⟨rfl, rfl⟩))
      clear i5
      go_round
      case rel => exact ⟨m + 1, by omega, by go_num, by rw [HQ.out]; rfl⟩
      case measure => simp [intOf]; omega
    · have e : m = 16 := by omega
      subst e
      go_wp2
      go_ret
      exact ⟨ret_int (sq_eq k 16), rfl⟩
theorem implSquare_no (k : Int) (w : World) (h : k < 0 ∨ 15 < k) :
    Calls Try.prog 19 #[.int .i64 k] w fun e w' => e = .returned (.int .i64 (-1)) ∧ w = w' := by
  rcases h with h | h
  · go_enter Try.func19, Try.ntmps19
    go_wp2
    go_ret
    exact ⟨rfl, rfl⟩
  · have h0 : ¬ k < 0 := by omega
    go_enter Try.func19, Try.ntmps19
    go_wp2
    go_ret
    exact ⟨rfl, rfl⟩
end Go.Proofs.Ytlnjfgmodfkiiaa
