/- Rows: validRow and ValidRow answer vrow of the list. Conditions: at most 1048576 numbers. -/
import Derived.Test.YtnjnniaiajejeaaRng
namespace Go.Proofs.Ytnjnniaiajejeaa
open Go.RowKit
/-- ValidRow. -/
def vrow (zs : List Int) : Bool := decide (zs.length ≤ 16) && allB (-1000) 1000 zs
theorem vrow_bad {zs : List Int} (h : allB (-1000) 1000 zs = false) : vrow zs = false := by simp [vrow, h]
theorem vrow_len {zs : List Int} (h : vrow zs = true) : zs.length ≤ 16 := by simp [vrow] at h; exact h.1
theorem vrow_all {zs : List Int} (h : vrow zs = true) (j : Nat) : -1000 ≤ zs.getD j 0 ∧ zs.getD j 0 ≤ 1000 := by
  simp only [vrow, Bool.and_eq_true] at h
  have ha := allB_iff.1 h.2
  by_cases hj : j < zs.length
  · exact ha (zs.getD j 0) (by simp [List.getD, hj])
  · simp [List.getD, List.getElem?_eq_none (by omega : zs.length ≤ j)]
set_option maxHeartbeats 400000 in
theorem validRow_any (w : World) (v : Value) (zs : List Int) (h : Rd w v zs) (hl : zs.length ≤ 1048576) :
    Calls Try.prog 27 #[v] w fun e w' => e = .returned (.bool (vrow zs)) ∧ w = w' := by
  obtain ⟨a, cap, rfl, hlc, hm, hc⟩ := h
  obtain ⟨n, hn⟩ : ∃ n, n = zs.length := ⟨_, rfl⟩
  rw [← hn] at hlc hl ⊢
  have HN := Lib.hid hn
  have HC := Lib.hid hc
  clear hc hn hm
  go_enter Try.func27, Try.ntmps27
  go_wp2
  go_loop [3] (fun i => ∃ k : Nat, k ≤ n ∧ i = .int .i64 k ∧ allB (-1000) 1000 (zs.take k) = true) (fun i => n - (intOf i).toNat)
  case atStart => exact ⟨0, Nat.zero_le _, rfl, rfl⟩
  case round =>
    obtain ⟨k, hk, rfl, ha⟩ := hrel
    have HA := Lib.hid ha
    clear ha
    by_cases hlt : k < n
    · obtain ⟨b, o, rfl, hcell⟩ := HC.out.resolve_left (by intro h0; have := HN.out; rw [h0] at this; simp at this; omega)
      have h1 := hcell k (by rw [← HN.out]; exact hlt)
      clear hcell HC
      obtain ⟨x, hx⟩ : ∃ x, x = zs.getD k 0 := ⟨_, rfl⟩
      rw [← hx] at h1
      have HX := Lib.hid hx
      clear hx
      by_cases hb : -1000 ≤ x ∧ x ≤ 1000
      · obtain ⟨hb0, hb1⟩ := hb
        go_wp2_with (go_at_call 29; refine (inRange_yes _ _ _ _ hb0 hb1).mono ?_; rintro e w' ⟨rfl, rfl⟩)
        go_round
        case rel => exact ⟨k + 1, by omega, by go_num, allB_snoc HA.out (by rw [← HN.out]; exact hlt) (by rw [← HX.out]; exact hb0) (by rw [← HX.out]; exact hb1)⟩
        case measure => simp [intOf]; omega
      · have hb' : x < -1000 ∨ 1000 < x := by omega
        have HB := Lib.hid (vrow_bad (allB_bad (zs := zs) (k := k) (by rw [← HN.out]; exact hlt) (by rw [← HX.out]; exact hb')))
        clear hb
        go_wp2_with (go_at_call 29; refine (inRange_no _ _ _ _ hb').mono ?_; rintro e w' ⟨rfl, rfl⟩)
        go_ret
        exact ⟨ret_bool HB.out.symm, rfl⟩
    · have e : k = n := by omega
      subst e
      have ha := HA.out
      rw [List.take_of_length_le (by rw [← HN.out]; omega)] at ha
      have HV := Lib.hid (show vrow zs = decide (k ≤ 16) by rw [vrow, ha, HN.out]; simp)
      clear HA ha hlt HC
      go_wp2
      go_ret
      exact ⟨ret_bool (by rw [HV.out, decide_eq_decide]; omega), rfl⟩
theorem specValidRow_any (w : World) (v : Value) (zs : List Int) (h : Rd w v zs) (hl : zs.length ≤ 1048576) :
    Calls Try.prog 17 #[v] w fun e w' => e = .returned (.bool (vrow zs)) ∧ w = w' := by
  go_enter Try.func17, Try.ntmps17
  go_wp2_with (go_at_call 27; refine (validRow_any _ _ zs h hl).mono ?_; rintro e w' ⟨rfl, rfl⟩)
  go_ret
  exact ⟨rfl, rfl⟩
set_option maxHeartbeats 800000 in
theorem implValidRow_any (w : World) (v : Value) (zs : List Int) (h : Rd w v zs) (hl : zs.length ≤ 1048576) :
    Calls Try.prog 12 #[v] w fun e w' => e = .returned (.bool (vrow zs)) ∧ w = w' := by
  obtain ⟨a, cap, rfl, hlc, hm, hc⟩ := h
  obtain ⟨n, hn⟩ : ∃ n, n = zs.length := ⟨_, rfl⟩
  rw [← hn] at hlc hl ⊢
  have HN := Lib.hid hn
  have HC := Lib.hid hc
  have HV := Lib.hid (show vrow zs = (decide (n ≤ 16) && allB (-1000) 1000 zs) by rw [vrow, hn])
  clear hc hn hm
  by_cases h1 : 16 < n
  · have HZ := Lib.hid (show vrow zs = false by rw [HV.out]; simp; omega)
    go_enter Try.func12, Try.ntmps12
    go_wp2
    go_ret
    exact ⟨ret_bool HZ.out.symm, rfl⟩
  have HV' := Lib.hid (show vrow zs = allB (-1000) 1000 zs by rw [HV.out]; simp; omega)
  clear HV
  go_enter Try.func12, Try.ntmps12
  go_wp2
  go_loop [10, 4] (fun i _ => ∃ k : Nat, k ≤ n ∧ i = .int .i64 k ∧ allB (-1000) 1000 (zs.take k) = true) (fun i _ => n - (intOf i).toNat)
  case atStart => exact ⟨0, Nat.zero_le _, rfl, rfl⟩
  case round =>
    obtain ⟨k, hk, rfl, ha⟩ := hrel
    have HA := Lib.hid ha
    clear ha
    by_cases hlt : k < n
    · obtain ⟨b, o, rfl, hcell⟩ := HC.out.resolve_left (by intro h0; have := HN.out; rw [h0] at this; simp at this; omega)
      have h1 := hcell k (by rw [← HN.out]; exact hlt)
      clear hcell HC
      obtain ⟨x, hx⟩ : ∃ x, x = zs.getD k 0 := ⟨_, rfl⟩
      rw [← hx] at h1
      have HX := Lib.hid hx
      clear hx
      by_cases hb0 : x < -1000
      · have HB := Lib.hid (allB_bad (lo := -1000) (hi := 1000) (zs := zs) (k := k) (by rw [← HN.out]; exact hlt) (by rw [← HX.out]; exact .inl hb0))
        go_wp2
        go_ret
        exact ⟨ret_bool (by rw [HV'.out, HB.out]), rfl⟩
      by_cases hb1 : 1000 < x
      · have HB := Lib.hid (allB_bad (lo := -1000) (hi := 1000) (zs := zs) (k := k) (by rw [← HN.out]; exact hlt) (by rw [← HX.out]; exact .inr (by omega)))
        go_wp2
        go_ret
        exact ⟨ret_bool (by rw [HV'.out, HB.out]), rfl⟩
      go_wp2
      go_round
      case rel => exact ⟨k + 1, by omega, by go_num, allB_snoc HA.out (by rw [← HN.out]; exact hlt) (by rw [← HX.out]; omega) (by rw [← HX.out]; omega)⟩
      case measure => simp [intOf]; omega
    · have e : k = n := by omega
      subst e
      have ha := HA.out
      rw [List.take_of_length_le (by rw [← HN.out]; omega)] at ha
      have HZ := Lib.hid (HV'.out.trans ha)
      clear HA ha HC
      go_wp2
      go_ret
      exact ⟨ret_bool HZ.out.symm, rfl⟩
end Go.Proofs.Ytnjnniaiajejeaa
