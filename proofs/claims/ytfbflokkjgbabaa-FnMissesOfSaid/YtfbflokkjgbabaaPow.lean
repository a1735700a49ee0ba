/- Powers of 2 and digits: power and bit of the reference. Conditions: as each says. -/
import Derived.Test.YtfbflokkjgbabaaBase
import Derived.Laws.BitsAllLaws
import Derived.Laws.BitsLemmas
namespace Go.Proofs.Ytfbflokkjgbabaa
open Go.RowKit
/-- 2 to the power j. -/
def pw2 : Nat → Nat
  | 0 => 1
  | j + 1 => 2 * pw2 j
theorem pw2_pos (j : Nat) : 1 ≤ pw2 j := by induction j with | zero => exact Nat.le_refl _ | succ j ih => simp only [pw2]; omega
theorem pw2_mono {i j : Nat} (h : i ≤ j) : pw2 i ≤ pw2 j := by
  induction j with
  | zero => rw [Nat.le_zero.1 h]; exact Nat.le_refl _
  | succ j ih =>
    by_cases e : i = j + 1
    · rw [e]; exact Nat.le_refl _
    · have := ih (by omega); simp only [pw2]; omega
theorem pw2_lt {i j : Nat} (h : i < j) : pw2 i < pw2 j := by
  have a := pw2_mono (show i + 1 ≤ j from h)
  have b := pw2_pos i
  simp only [pw2] at a; omega
theorem pw2_bd {j : Nat} (h : j ≤ 20) : pw2 j ≤ 1048576 := Nat.le_trans (pw2_mono h) (by decide)
/-- The digit of x at j. -/
def bitN (x j : Nat) : Nat := x / pw2 j % 2
theorem power2_any (n : Nat) (w : World) (hn : n ≤ 20) :
    Calls Try.prog 34 #[.int .i64 n] w fun e w' => e = .returned (.int .i64 (pw2 n : Nat)) ∧ w = w' := by
  go_enter Try.func34, Try.ntmps34
  go_wp2
  go_loop [0, 3] (fun i c => ∃ j m : Nat, j + m = n ∧ i = .int .i64 m ∧ c = .int .i64 (pw2 j : Nat)) (fun i _ => (intOf i).toNat)
  case atStart => exact ⟨0, n, by omega, rfl, rfl⟩
  case round =>
    obtain ⟨j, m, hj, rfl, rfl⟩ := hrel
    have hb := pw2_bd (show j ≤ 20 by omega)
    have hm : m ≤ 20 := by omega
    have HJ := Lib.hid hj
    clear hj
    by_cases hlt : 0 < m
    · go_wp2
      go_round
      case rel => exact ⟨j + 1, m - 1, by have := HJ.out; omega, by go_num, by rw [pw2]; go_num⟩
      case measure => simp [intOf]; omega
    · have e : m = 0 := by omega
      subst e
      have HE := Lib.hid (show j = n from HJ.out)
      clear hlt
      go_wp2
      go_ret
      exact ⟨ret_int (by rw [HE.out]), rfl⟩
theorem bit_any (x j : Nat) (w : World) (hj : j ≤ 20) (hx : x ≤ 1048576) :
    Calls Try.prog 24 #[.int .i64 x, .int .i64 j] w fun e w' => e = .returned (.int .i64 (bitN x j : Nat)) ∧ w = w' := by
  have hb := pw2_bd hj
  have hp := pw2_pos j
  have HB := Lib.hid (show (bitN x j : Nat) = x / pw2 j % 2 from rfl)
  have d0 : x / pw2 j ≤ x := Nat.div_le_self _ _
  have d1 : (x : Int) / (pw2 j : Int) = ((x / pw2 j : Nat) : Int) := rfl
  have d2 : (0 : Int) ≤ (x : Int) / (pw2 j : Int) := by rw [d1]; exact Int.natCast_nonneg _
  have d3 : (x : Int) / (pw2 j : Int) ≤ 1048576 := by rw [d1]; exact Int.ofNat_le.2 (Nat.le_trans d0 hx)
  have d4 : ¬ (pw2 j : Int) = 0 := by omega
  have d5 : ¬ pw2 j = 0 := by omega
  clear d0 d1
  go_enter Try.func24, Try.ntmps24
  go_wp2_with (go_at_call 34; refine (power2_any j _ hj).mono ?_; rintro e w' ⟨rfl, rfl⟩)
  go_ret
  exact ⟨ret_int (by rw [HB.out]; rfl), rfl⟩
theorem pw2_eq (j : Nat) : pw2 j = 2 ^ j := by induction j with | zero => rfl | succ j ih => rw [pw2, ih, Nat.pow_succ]; omega
theorem wrap20 (n : Int) (h0 : 0 ≤ n) (h1 : n < 2 ^ 20) : IntKind.i64.wrap n = n := by rw [IntKind.wrap_i64]; omega
theorem and20 (a b : Nat) (ha : a ≤ 1048575) (hb : b ≤ 1048575) : bits .and .i64 (a : Int) (b : Int) = ((a &&& b : Nat) : Int) := (bits_nat .i64 20 (by decide) wrap20 a b (by omega) (by omega)).1
theorem or20 (a b : Nat) (ha : a ≤ 1048575) (hb : b ≤ 1048575) : bits .or .i64 (a : Int) (b : Int) = ((a ||| b : Nat) : Int) := (bits_nat .i64 20 (by decide) wrap20 a b (by omega) (by omega)).2
theorem div_pw2 (a k : Nat) : (a : Int) / 2 ^ k = ((a / pw2 k : Nat) : Int) := by
  rw [pw2_eq, show ((2 : Int) ^ k) = ((2 ^ k : Nat) : Int) by simp]; rfl
theorem bitN_le (a k : Nat) : bitN a k ≤ 1 := by unfold bitN; omega
/-- 'a >> k & 1'. -/
theorem shr_and (a k : Nat) (ha : a ≤ 1048575) : bits .and .i64 ((a : Int) / 2 ^ k) 1 = (bitN a k : Nat) := by
  rw [div_pw2]
  have h : a / pw2 k ≤ a := Nat.div_le_self _ _
  rw [show (1 : Int) = ((1 : Nat) : Int) from rfl, and20 _ 1 (by omega) (by omega), Nat.and_one_is_mod]; rfl
/-- '1 << t'. -/
theorem shl_one (t : Nat) (ht : t ≤ 20) : IntKind.i64.wrap (2 ^ t) = (pw2 t : Nat) := by
  have h := pw2_bd ht
  rw [show ((2 : Int) ^ t) = ((2 ^ t : Nat) : Int) by simp, ← pw2_eq, IntKind.wrap_i64]; omega
theorem shl_one64 (t : Nat) (ht : t ≤ 20) : wrap64 (2 ^ t) = (pw2 t : Nat) := by
  have h := pw2_bd ht
  rw [show ((2 : Int) ^ t) = ((2 ^ t : Nat) : Int) by simp, ← pw2_eq]
  unfold wrap64; omega
theorem bitN_test (z t : Nat) : z.testBit t = decide (bitN z t = 1) := by
  rw [Nat.testBit_eq_decide_div_mod_eq, bitN, pw2_eq]
theorem and_pw2 (z t : Nat) : (z &&& pw2 t != 0) = decide (bitN z t = 1) := by
  have ht := bitN_test z t
  rw [pw2_eq]
  by_cases h : bitN z t = 1
  · rw [decide_eq_true h] at ht ⊢
    have : z &&& 2 ^ t = 2 ^ t := by
      apply Nat.eq_of_testBit_eq
      intro j
      rw [Nat.testBit_and, Nat.testBit_two_pow]
      by_cases e : t = j
      · subst e; simp [ht]
      · simp [e]
    rw [this]
    have := Nat.pow_pos (n := t) (show 0 < 2 by omega)
    simp
  · rw [decide_eq_false h] at ht ⊢
    have : z &&& 2 ^ t = 0 := by
      apply Nat.eq_of_testBit_eq
      intro j
      rw [Nat.testBit_and, Nat.testBit_two_pow, Nat.zero_testBit]
      by_cases e : t = j
      · subst e; simp [ht]
      · simp [e]
    rw [this]; rfl
theorem or_lt (z t n : Nat) (hz : z < 2 ^ n) (ht : t < n) : z ||| pw2 t < 2 ^ n := by
  rw [pw2_eq]; exact Nat.or_lt_two_pow hz (Nat.pow_lt_pow_right (by omega) ht)
theorem test_or (z t j : Nat) : (z ||| pw2 t).testBit j = (z.testBit j || decide (t = j)) := by
  rw [pw2_eq, Nat.testBit_or, Nat.testBit_two_pow]
/-- A digit that is not there is added. -/
theorem or_add (z t : Nat) (h : bitN z t ≠ 1) : z ||| pw2 t = z + pw2 t := by
  have hb : bitN z t = 0 := by have := bitN_le z t; omega
  have ht : z.testBit t = false := by rw [bitN_test, hb]; rfl
  apply Nat.eq_of_testBit_eq
  intro j
  rw [pw2_eq, Nat.testBit_or, Nat.testBit_two_pow, Nat.add_comm]
  by_cases e : t = j
  · subst e; rw [Nat.testBit_two_pow_add_eq, ht]; simp
  · by_cases hlt : j < t
    · rw [Nat.testBit_two_pow_add_gt hlt]; simp [e]
    · have hgt : t < j := by omega
      have hz := Nat.div_add_mod z (2 ^ (t + 1))
      have hr : z % 2 ^ (t + 1) < 2 ^ t := by
        have h2 : z % 2 ^ (t + 1) / 2 ^ t = 0 := by
          have h3 : z % 2 ^ (t + 1) / 2 ^ t = z / 2 ^ t % 2 := by rw [Nat.pow_succ, Nat.mod_mul_right_div_self]
          rw [h3]; rw [← pw2_eq]; exact hb
        rcases Nat.div_eq_zero_iff.1 h2 with h4 | h4
        · exact absurd h4 (Nat.pos_iff_ne_zero.1 (Nat.pow_pos (by omega)))
        · exact h4
      have h5 : 2 ^ t + z % 2 ^ (t + 1) < 2 ^ (t + 1) := by have e2 : 2 ^ (t + 1) = 2 ^ t * 2 := Nat.pow_succ 2 t; omega
      have h6 : 2 ^ t + z = 2 ^ (t + 1) * (z / 2 ^ (t + 1)) + (2 ^ t + z % 2 ^ (t + 1)) := by omega
      rw [h6]
      have h7 : z.testBit j = (2 ^ (t + 1) * (z / 2 ^ (t + 1)) + z % 2 ^ (t + 1)).testBit j := by rw [hz]
      rw [h7, Nat.testBit_two_pow_mul_add _ h5, Nat.testBit_two_pow_mul_add _ (Nat.mod_lt _ (Nat.pow_pos (by omega)))]
      rw [if_neg (by omega), if_neg (by omega)]; simp [e]
end Go.Proofs.Ytfbflokkjgbabaa
