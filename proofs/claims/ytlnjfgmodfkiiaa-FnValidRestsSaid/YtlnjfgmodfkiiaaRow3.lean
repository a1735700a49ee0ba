/- Rows of rests: validRests and ValidRests answer vrests of the list. Conditions: at most 1048576 numbers. -/
import Derived.Test.YtlnjfgmodfkiiaaNum3
namespace Go.Proofs.Ytlnjfgmodfkiiaa
open Go.RowKit
theorem mod96 (n : Nat) : (96 : Int) % (n : Int) = ((96 % n : Nat) : Int) := rfl
/-- ValidRests. -/
def vrests (zs : List Int) : Bool := decide (1 ≤ zs.length ∧ zs.length ≤ 96 ∧ 96 % zs.length = 0) && allB 0 96 zs
theorem vrests_bad {zs : List Int} (h : allB 0 96 zs = false) : vrests zs = false := by simp [vrests, h]
set_option maxHeartbeats 400000 in
theorem validRests_any (w : World) (v : Value) (zs : List Int) (h : Rd w v zs) (hl : zs.length ≤ 1048576) :
    Calls Try.prog 28 #[v] w fun e w' => e = .returned (.bool (vrests zs)) ∧ w = w' := by
  obtain ⟨a, cap, rfl, hlc, hm, hc⟩ := h
  obtain ⟨n, hn⟩ : ∃ n, n = zs.length := ⟨_, rfl⟩
  rw [← hn] at hlc hl ⊢
  have HN := Lib.hid hn
  have HC := Lib.hid hc
  clear hc hn hm
  go_enter Try.func28, Try.ntmps28
  go_wp2
  go_loop [3] (fun i => ∃ k : Nat, k ≤ n ∧ i = .int .i64 k ∧ allB 0 96 (zs.take k) = true) (fun i => n - (intOf i).toNat)
  case atStart => exact ⟨0, Nat.zero_le _, rfl, rfl⟩
  case round =>
    obtain ⟨k, hk, rfl, ha⟩ := hrel
    have HA := Lib.hid ha
    clear ha
    by_cases hlt : k < n
    · obtain ⟨b, o, rfl, hcell⟩ := HC.out.resolve_left (by intro h0; have := HN.out; rw [h0] at this; simp at this; omega)
      have h1 := hcell k (by rw [← HN.out]; exact hlt)
      clear hcell HC
      obtain ⟨x, hx⟩ : ∃ x, x = zs.getD k 0 := ⟨_, rfl⟩
      rw [← hx] at h1
      have HX := Lib.hid hx
      clear hx
      by_cases hb : 0 ≤ x ∧ x ≤ 96
      · obtain ⟨hb0, hb1⟩ := hb
        go_wp2_with (go_at_call 31; refine (inRange_yes _ _ _ _ hb0 hb1).mono ?_; rintro e w' ⟨rfl, rfl⟩)
        go_round
        case rel => exact ⟨k + 1, by omega, by go_num, allB_snoc HA.out (by rw [← HN.out]; exact hlt) (by rw [← HX.out]; exact hb0) (by rw [← HX.out]; exact hb1)⟩
        case measure => simp [intOf]; omega
      · have hb' : x < 0 ∨ 96 < x := by omega
        have HB := Lib.hid (vrests_bad (allB_bad (zs := zs) (k := k) (by rw [← HN.out]; exact hlt) (by rw [← HX.out]; exact hb')))
        clear hb
        go_wp2_with (go_at_call 31; refine (inRange_no _ _ _ _ hb').mono ?_; rintro e w' ⟨rfl, rfl⟩)
        go_ret
        exact ⟨ret_bool HB.out.symm, rfl⟩
    · have e : k = n := by omega
      subst e
      have ha := HA.out
      rw [List.take_of_length_le (by rw [← HN.out]; omega)] at ha
      have HV := Lib.hid (show vrests zs = decide (1 ≤ k ∧ k ≤ 96 ∧ 96 % k = 0) by rw [vrests, ha, HN.out]; simp)
      clear HA ha hlt HC
      by_cases hb : 1 ≤ k ∧ k ≤ 96
      · obtain ⟨hb0, hb1⟩ := hb
        have z3 : ¬ k = 0 := by omega
        have HZ := Lib.hid (show ((96 : Int) % (k : Int) == 0) = vrests zs by rw [HV.out, Bool.eq_iff_iff]; have m := mod96 k; simp; omega)
        clear HV
        go_wp2_with (go_at_call 31; refine (inRange_yes _ _ _ _ (by omega) (by omega)).mono ?_; rintro e w' ⟨rfl, rfl⟩)
        go_ret
        exact ⟨ret_bool HZ.out, rfl⟩
      · have hb' : (k : Int) < 1 ∨ 96 < (k : Int) := by omega
        have HZ := Lib.hid (show vrests zs = false by rw [HV.out]; simp; omega)
        clear hb HV
        go_wp2_with (go_at_call 31; refine (inRange_no _ _ _ _ hb').mono ?_; rintro e w' ⟨rfl, rfl⟩)
        go_ret
        exact ⟨ret_bool HZ.out.symm, rfl⟩
theorem specValidRests_any (w : World) (v : Value) (zs : List Int) (h : Rd w v zs) (hl : zs.length ≤ 1048576) :
    Calls Try.prog 10 #[v] w fun e w' => e = .returned (.bool (vrests zs)) ∧ w = w' := by
  go_enter Try.func10, Try.ntmps10
  go_wp2_with (go_at_call 28; refine (validRests_any _ _ zs h hl).mono ?_; rintro e w' ⟨rfl, rfl⟩)
  go_ret
  exact ⟨rfl, rfl⟩
set_option maxHeartbeats 800000 in
theorem implValidRests_any (w : World) (v : Value) (zs : List Int) (h : Rd w v zs) (hl : zs.length ≤ 1048576) :
    Calls Try.prog 9 #[v] w fun e w' => e = .returned (.bool (vrests zs)) ∧ w = w' := by
  obtain ⟨a, cap, rfl, hlc, hm, hc⟩ := h
  obtain ⟨n, hn⟩ : ∃ n, n = zs.length := ⟨_, rfl⟩
  rw [← hn] at hlc hl ⊢
  have HN := Lib.hid hn
  have HC := Lib.hid hc
  have HV := Lib.hid (show vrests zs = (decide (1 ≤ n ∧ n ≤ 96 ∧ 96 % n = 0) && allB 0 96 zs) by rw [vrests, hn])
  clear hc hn hm
  by_cases h1 : n < 1
  · have HZ := Lib.hid (show vrests zs = false by rw [HV.out]; simp; omega)
    go_enter Try.func9, Try.ntmps9
    go_wp2
    go_ret
    exact ⟨ret_bool HZ.out.symm, rfl⟩
  by_cases h2 : 97 ≤ n
  · have HZ := Lib.hid (show vrests zs = false by rw [HV.out]; simp; omega)
    go_enter Try.func9, Try.ntmps9
    go_wp2
    go_ret
    exact ⟨ret_bool HZ.out.symm, rfl⟩
  have z3 : ¬ n = 0 := by omega
  by_cases h3 : (96 : Int) % (n : Int) = 0
  · have h3' : ((96 : Int) % (n : Int) != 0) = false := by simp [h3]
    have HV' := Lib.hid (show vrests zs = allB 0 96 zs by rw [HV.out]; have m := mod96 n; simp; intro; omega)
    clear HV h3
    go_enter Try.func9, Try.ntmps9
    go_wp2
    go_loop [21, 4] (fun i _ => ∃ k : Nat, k ≤ n ∧ i = .int .i64 k ∧ allB 0 96 (zs.take k) = true) (fun i _ => n - (intOf i).toNat)
    case atStart => exact ⟨0, Nat.zero_le _, rfl, rfl⟩
    case round =>
      obtain ⟨k, hk, rfl, ha⟩ := hrel
      have HA := Lib.hid ha
      clear ha
      by_cases hlt : k < n
      · obtain ⟨b, o, rfl, hcell⟩ := HC.out.resolve_left (by intro h0; have := HN.out; rw [h0] at this; simp at this; omega)
        have h1 := hcell k (by rw [← HN.out]; exact hlt)
        clear hcell HC
        obtain ⟨x, hx⟩ : ∃ x, x = zs.getD k 0 := ⟨_, rfl⟩
        rw [← hx] at h1
        have HX := Lib.hid hx
        clear hx
        by_cases hb0 : x < 0
        · have HB := Lib.hid (allB_bad (lo := 0) (hi := 96) (zs := zs) (k := k) (by rw [← HN.out]; exact hlt) (by rw [← HX.out]; exact .inl hb0))
          go_wp2
          go_ret
          exact ⟨ret_bool (by rw [HV'.out, HB.out]), rfl⟩
        by_cases hb1 : 97 ≤ x
        · have HB := Lib.hid (allB_bad (lo := 0) (hi := 96) (zs := zs) (k := k) (by rw [← HN.out]; exact hlt) (by rw [← HX.out]; exact .inr (by omega)))
          go_wp2
          go_ret
          exact ⟨ret_bool (by rw [HV'.out, HB.out]), rfl⟩
        go_wp2
        go_round
        case rel => exact ⟨k + 1, by omega, by go_num, allB_snoc HA.out (by rw [← HN.out]; exact hlt) (by rw [← HX.out]; omega) (by rw [← HX.out]; omega)⟩
        case measure => simp [intOf]; omega
      · have e : k = n := by omega
        subst e
        have ha := HA.out
        rw [List.take_of_length_le (by rw [← HN.out]; omega)] at ha
        have HZ := Lib.hid (HV'.out.trans ha)
        clear HA ha HC
        go_wp2
        go_ret
        exact ⟨ret_bool HZ.out.symm, rfl⟩
  · have h3' : ((96 : Int) % (n : Int) != 0) = true := by simp [h3]
    have HZ := Lib.hid (show vrests zs = false by rw [HV.out]; have m := mod96 n; simp; omega)
    clear HV h3
    go_enter Try.func9, Try.ntmps9
    go_wp2
    go_ret
    exact ⟨ret_bool HZ.out.symm, rfl⟩
end Go.Proofs.Ytlnjfgmodfkiiaa
