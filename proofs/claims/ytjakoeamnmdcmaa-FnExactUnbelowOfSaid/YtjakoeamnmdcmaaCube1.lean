/- Rows of 2 to the power k numbers: power, bit, bitsOf, validCube and whole. Conditions: as each says. -/
import Derived.Test.YtjakoeamnmdcmaaRow1
import Derived.Test.YtjakoeamnmdcmaaTab
import Derived.Laws.BitsAllLaws
namespace Go.Proofs.Ytjakoeamnmdcmaa
open Go.RowKit
/-- 2 to the power j. -/
def pw2 : Nat → Nat
  | 0 => 1
  | j + 1 => 2 * pw2 j
theorem pw2_pos (j : Nat) : 1 ≤ pw2 j := by induction j with | zero => exact Nat.le_refl _ | succ j ih => simp only [pw2]; omega
theorem pw2_mono {i j : Nat} (h : i ≤ j) : pw2 i ≤ pw2 j := by
  induction j with
  | zero => rw [Nat.le_zero.1 h]; exact Nat.le_refl _
  | succ j ih =>
    by_cases e : i = j + 1
    · rw [e]; exact Nat.le_refl _
    · have := ih (by omega); simp only [pw2]; omega
theorem pw2_lt {i j : Nat} (h : i < j) : pw2 i < pw2 j := by
  have a := pw2_mono (show i + 1 ≤ j from h)
  have b := pw2_pos i
  simp only [pw2] at a; omega
theorem pw2_bd {j : Nat} (h : j ≤ 20) : pw2 j ≤ 1048576 := Nat.le_trans (pw2_mono h) (by decide)
/-- The digit of x at j. -/
def bitN (x j : Nat) : Nat := x / pw2 j % 2
theorem power2_any (n : Nat) (w : World) (hn : n ≤ 20) :
    Calls Try.prog 49 #[.int .i64 n] w fun e w' => e = .returned (.int .i64 (pw2 n : Nat)) ∧ w = w' := by
  go_enter Try.func49, Try.ntmps49
  go_wp2
  go_loop [0, 3] (fun i c => ∃ j m : Nat, j + m = n ∧ i = .int .i64 m ∧ c = .int .i64 (pw2 j : Nat)) (fun i _ => (intOf i).toNat)
  case atStart => exact ⟨0, n, by omega, rfl, rfl⟩
  case round =>
    obtain ⟨j, m, hj, rfl, rfl⟩ := hrel
    have hb := pw2_bd (show j ≤ 20 by omega)
    have hm : m ≤ 20 := by omega
    have HJ := Lib.hid hj
    clear hj
    by_cases hlt : 0 < m
    · go_wp2
      go_round
      case rel => exact ⟨j + 1, m - 1, by have := HJ.out; omega, by go_num, by rw [pw2]; go_num⟩
      case measure => simp [intOf]; omega
    · have e : m = 0 := by omega
      subst e
      have HE := Lib.hid (show j = n from HJ.out)
      clear hlt
      go_wp2
      go_ret
      exact ⟨ret_int (by rw [HE.out]), rfl⟩
theorem bit_any (x j : Nat) (w : World) (hj : j ≤ 20) (hx : x ≤ 1048576) :
    Calls Try.prog 50 #[.int .i64 x, .int .i64 j] w fun e w' => e = .returned (.int .i64 (bitN x j : Nat)) ∧ w = w' := by
  have hb := pw2_bd hj
  have hp := pw2_pos j
  have HB := Lib.hid (show (bitN x j : Nat) = x / pw2 j % 2 from rfl)
  have d0 : x / pw2 j ≤ x := Nat.div_le_self _ _
  have d1 : (x : Int) / (pw2 j : Int) = ((x / pw2 j : Nat) : Int) := rfl
  have d2 : (0 : Int) ≤ (x : Int) / (pw2 j : Int) := by rw [d1]; exact Int.natCast_nonneg _
  have d3 : (x : Int) / (pw2 j : Int) ≤ 1048576 := by rw [d1]; exact Int.ofNat_le.2 (Nat.le_trans d0 hx)
  have d4 : ¬ (pw2 j : Int) = 0 := by omega
  have d5 : ¬ pw2 j = 0 := by omega
  clear d0 d1
  go_enter Try.func50, Try.ntmps50
  go_wp2_with (go_at_call 49; refine (power2_any j _ hj).mono ?_; rintro e w' ⟨rfl, rfl⟩)
  go_ret
  exact ⟨ret_int (by rw [HB.out]; rfl), rfl⟩
/-- 1, 2, 4, 8 or 16. -/
def isPow (n : Nat) : Bool := decide (n = 1 ∨ n = 2 ∨ n = 4 ∨ n = 8 ∨ n = 16)
def cube (zs : List Int) : Bool := vrow zs && isPow zs.length
theorem cube_row {zs : List Int} (h : cube zs = true) : vrow zs = true := by simp only [cube, Bool.and_eq_true] at h; exact h.1
theorem isPow_ex {n : Nat} (h : isPow n = true) : ∃ J, J ≤ 4 ∧ n = pw2 J := by
  simp only [isPow, decide_eq_true_eq] at h
  rcases h with h | h | h | h | h
  · exact ⟨0, by omega, h⟩
  · exact ⟨1, by omega, h⟩
  · exact ⟨2, by omega, h⟩
  · exact ⟨3, by omega, h⟩
  · exact ⟨4, by omega, h⟩
theorem isPow_no {n : Nat} (h : isPow n = false) (k : Nat) (hk : k ≤ 4) : n ≠ pw2 k := by
  rintro rfl
  have : ∀ k : Nat, k < 5 → isPow (pw2 k) = true := by decide
  rw [this k (by omega)] at h; simp at h
theorem cube_ex {zs : List Int} (h : cube zs = true) : ∃ J, J ≤ 4 ∧ zs.length = pw2 J := by simp only [cube, Bool.and_eq_true] at h; exact isPow_ex h.2
theorem bitsOf_yes (a : Option Addr) (c J : Nat) (w : World) (hJ : J ≤ 4) :
    Calls Try.prog 48 #[.slice a (pw2 J) c] w fun e w' => e = .returned (.int .i64 (J : Nat)) ∧ w = w' := by
  have hb := pw2_bd (show J ≤ 20 by omega)
  have HM := Lib.hid (show ∀ i j, i < j → pw2 i < pw2 j from fun _ _ h => pw2_lt h)
  go_enter Try.func48, Try.ntmps48
  go_wp2
  go_loop [3] (fun i => ∃ k : Nat, k ≤ J ∧ i = .int .i64 k) (fun i => 5 - (intOf i).toNat)
  case atStart => exact ⟨0, by omega, rfl⟩
  case round =>
    obtain ⟨k, hk, rfl⟩ := hrel
    by_cases hlt : k < J
    · have hne : ((pw2 J : Int) == (pw2 k : Int)) = false := by have := HM.out _ _ hlt; simp; omega
      go_wp2_with (go_at_call 49; refine (power2_any k _ (by omega)).mono ?_; rintro e w' ⟨rfl, rfl⟩)
      go_round
      case rel => exact ⟨k + 1, by omega, by go_num⟩
      case measure => simp [intOf]; omega
    · have e : k = J := by omega
      subst e
      clear hlt hk
      go_wp2_with (go_at_call 49; refine (power2_any k _ (by omega)).mono ?_; rintro e w' ⟨rfl, rfl⟩)
      go_ret
      exact ⟨rfl, rfl⟩
theorem bitsOf_no (a : Option Addr) (c n : Nat) (w : World) (_hn : n ≤ 16) (h : isPow n = false) :
    Calls Try.prog 48 #[.slice a n c] w fun e w' => e = .returned (.int .i64 (-1)) ∧ w = w' := by
  have HM := Lib.hid (isPow_no h)
  clear h
  go_enter Try.func48, Try.ntmps48
  go_wp2
  go_loop [3] (fun i => ∃ k : Nat, k ≤ 5 ∧ i = .int .i64 k) (fun i => 5 - (intOf i).toNat)
  case atStart => exact ⟨0, by omega, rfl⟩
  case round =>
    obtain ⟨k, hk, rfl⟩ := hrel
    by_cases hlt : k < 5
    · have hne : ((n : Int) == (pw2 k : Int)) = false := by have := HM.out k (by omega); simp; omega
      go_wp2_with (go_at_call 49; refine (power2_any k _ (by omega)).mono ?_; rintro e w' ⟨rfl, rfl⟩)
      go_round
      case rel => exact ⟨k + 1, by omega, by go_num⟩
      case measure => simp [intOf]; omega
    · go_wp2
      go_ret
      exact ⟨rfl, rfl⟩
theorem validCube_any (w : World) (v : Value) (zs : List Int) (h : Rd w v zs) (hl : zs.length ≤ 1048576) :
    Calls Try.prog 43 #[v] w fun e w' => e = .returned (.bool (cube zs)) ∧ w = w' := by
  have h' := h
  obtain ⟨a, cap, rfl, hlc, hm, hc⟩ := h'
  by_cases hv : vrow zs = true
  · have HV := Lib.hid hv
    have hl16 := vrow_len hv
    by_cases hp : isPow zs.length = true
    · have HE := Lib.hid (show cube zs = true by simp [cube, hv, hp])
      obtain ⟨J, hJ, hn⟩ := isPow_ex hp
      rw [hn] at h ⊢
      have HH := Lib.hid h
      have HL := Lib.hid hl
      clear hc hm h hn hlc hp hv hl
      go_enter Try.func43, Try.ntmps43
      go_wp2_with fail
      refine (validRow_any _ _ zs HH.out HL.out).mono ?_; rintro e w' ⟨rfl, hww⟩; have e2 := HV.out; rw [e2]; subst hww; clear e2
      go_wp2_with (go_at_call 48; refine (bitsOf_yes _ _ J _ hJ).mono ?_; rintro e w' ⟨rfl, rfl⟩)
      go_ret
      exact ⟨ret_bool HE.out.symm, rfl⟩
    · have hp' : isPow zs.length = false := by simpa using hp
      have HE := Lib.hid (show cube zs = false by simp [cube, hp'])
      obtain ⟨n, hn⟩ : ∃ n, n = zs.length := ⟨_, rfl⟩
      rw [← hn] at h hp' hl16 ⊢
      have HH := Lib.hid h
      have HL := Lib.hid hl
      have HP := Lib.hid hp'
      clear hc hm h hn hlc hp hv hl hp'
      go_enter Try.func43, Try.ntmps43
      go_wp2_with fail
      refine (validRow_any _ _ zs HH.out HL.out).mono ?_; rintro e w' ⟨rfl, hww⟩; have e2 := HV.out; rw [e2]; subst hww; clear e2
      go_wp2_with (go_at_call 48; refine (bitsOf_no _ _ n _ hl16 HP.out).mono ?_; rintro e w' ⟨rfl, rfl⟩)
      go_ret
      exact ⟨ret_bool HE.out.symm, rfl⟩
  · have hv' : vrow zs = false := by simpa using hv
    have HE := Lib.hid (show cube zs = false by simp [cube, hv'])
    have HV := Lib.hid hv'
    clear hc hm hlc hv hv'
    go_enter Try.func43, Try.ntmps43
    go_wp2_with fail
    refine (validRow_any _ _ zs h hl).mono ?_; rintro e w' ⟨rfl, hww⟩; have e2 := HV.out; rw [e2]; subst hww; clear e2
    go_wp2_with fail
    go_ret
    exact ⟨ret_bool HE.out.symm, rfl⟩
theorem and_pow : ∀ n : Nat, n < 17 → n ≠ 0 → (bits .and .i64 (n : Int) ((n : Int) - 1) == 0) = isPow n := by decide +kernel
theorem whole_any (w : World) (v : Value) (zs : List Int) (h : Rd w v zs) (hl : zs.length ≤ 1048576) :
    Calls Try.prog 45 #[v] w fun e w' => e = .returned (.bool (cube zs)) ∧ w = w' := by
  have h' := h
  obtain ⟨a, cap, rfl, hlc, hm, hc⟩ := h'
  have HL := Lib.hid hl
  by_cases hv : vrow zs = true
  · have HV := Lib.hid hv
    have hl16 := vrow_len hv
    by_cases h0 : 0 < zs.length
    · have HE := Lib.hid (show cube zs = isPow zs.length by simp [cube, hv])
      have hb := and_pow zs.length (by omega) (by omega)
      rw [← HE.out] at hb
      obtain ⟨n, hn⟩ : ∃ n, n = zs.length := ⟨_, rfl⟩
      rw [← hn] at h hb h0 hl16 ⊢
      have HH := Lib.hid h
      clear hc hm h hn hlc hv hl HE
      go_enter Try.func45, Try.ntmps45
      go_wp2_with fail
      refine (implValidRow_any _ _ zs HH.out HL.out).mono ?_; rintro e w' ⟨rfl, hww⟩; have e2 := HV.out; rw [e2]; subst hww; clear e2
      go_wp2_with fail
      go_ret
      exact ⟨rfl, rfl⟩
    · have hz : zs.length = 0 := by omega
      have HE := Lib.hid (show cube zs = false by simp [cube, isPow, hz])
      rw [hz] at h ⊢
      have HH := Lib.hid h
      clear hc hm h hlc hv hl hz h0 hl16
      go_enter Try.func45, Try.ntmps45
      go_wp2_with fail
      refine (implValidRow_any _ _ zs HH.out HL.out).mono ?_; rintro e w' ⟨rfl, hww⟩; have e2 := HV.out; rw [e2]; subst hww; clear e2
      go_wp2_with fail
      go_ret
      exact ⟨ret_bool HE.out.symm, rfl⟩
  · have hv' : vrow zs = false := by simpa using hv
    have HE := Lib.hid (show cube zs = false by simp [cube, hv'])
    have HV := Lib.hid hv'
    clear hc hm hlc hv hv'
    go_enter Try.func45, Try.ntmps45
    go_wp2_with fail
    refine (implValidRow_any _ _ zs h hl).mono ?_; rintro e w' ⟨rfl, hww⟩; have e2 := HV.out; rw [e2]; subst hww; clear e2
    go_wp2_with fail
    go_ret
    exact ⟨ret_bool HE.out.symm, rfl⟩
end Go.Proofs.Ytjakoeamnmdcmaa
