/- IsQuiet and ArePaired: the reference and the program answer the same. Conditions: at most 1048576 numbers. -/
import Derived.Test.YtjakoeamnmdcmaaSelf5
namespace Go.Proofs.Ytjakoeamnmdcmaa
open Go.RowKit
/-- 1 and -1 alone. -/
def on1 (zs : List Int) : Bool := zs.all fun z => decide (z = 1 ∨ z = -1)
theorem on1_snoc {zs : List Int} {k : Nat} (h : on1 (zs.take k) = true) (hk : k < zs.length) (h1 : zs.getD k 0 = 1 ∨ zs.getD k 0 = -1) : on1 (zs.take (k + 1)) = true := by
  rw [take_snoc' zs k hk]
  simp only [on1, List.all_append, Bool.and_eq_true] at h ⊢
  exact ⟨h, by simp only [List.all_cons, List.all_nil, Bool.and_true]; exact decide_eq_true h1⟩
theorem on1_bad {zs : List Int} {k : Nat} (hk : k < zs.length) (h1 : zs.getD k 0 ≠ 1) (h2 : zs.getD k 0 ≠ -1) : on1 zs = false := by
  rw [Bool.eq_false_iff]
  intro ha
  simp only [on1, List.all_eq_true, decide_eq_true_eq] at ha
  have := ha (zs.getD k 0) (by simp [List.getD, hk])
  omega
def oneRow (zs : List Int) : Bool := on1 zs && vrow zs
theorem seTo_bd {zs : List Int} (h : ∀ j, -1000 ≤ zs.getD j 0 ∧ zs.getD j 0 ≤ 1000) (hl : zs.length ≤ 16) (k : Nat) (hk : k ≤ zs.length) : ∀ j, -16000000 ≤ (seTo zs k).getD j 0 ∧ (seTo zs k).getD j 0 ≤ 16000000 := by
  induction k with
  | zero => intro j; simp [seTo]
  | succ k ih =>
    intro j
    have a := ih (by omega) j
    have b := seSum_bd h k (zs.length - k)
    simp only [seTo, List.getD_eq_getElem?_getD, List.getElem?_append] at a ⊢
    split
    · exact a
    · by_cases e : j - (seTo zs k).length = 0
      · rw [e]; simp; omega
      · rw [List.getElem?_eq_none (by simp; omega)]; simp
def retIsQuiet (zs : List Int) : Bool := oneRow zs && decide (1 ≤ zs.length) && allB (-1) 1 ((seTo zs zs.length).drop 1)
theorem drop1_get (l : List Int) (k : Nat) : (l.drop 1).getD k 0 = l.getD (k + 1) 0 := by simp
set_option maxHeartbeats 400000 in
theorem onlySigns_any (w : World) (v : Value) (zs : List Int) (h : Rd w v zs) (hl : zs.length ≤ 1048576) :
    Calls Try.prog 31 #[v] w fun e w' => e = .returned (.bool (oneRow zs)) ∧ w = w' := by
  have HH := Lib.hid h
  have HL := Lib.hid hl
  obtain ⟨a, cap, rfl, hlc, hm, hc⟩ := h
  obtain ⟨n, hn⟩ : ∃ n, n = zs.length := ⟨_, rfl⟩
  rw [← hn] at hlc hl HH ⊢
  have HN := Lib.hid hn
  have HC := Lib.hid hc
  clear hc hn hm
  go_enter Try.func31, Try.ntmps31
  go_wp2
  go_loop [3] (fun i => ∃ k : Nat, k ≤ n ∧ i = .int .i64 k ∧ on1 (zs.take k) = true) (fun i => n - (intOf i).toNat)
  case atStart => exact ⟨0, Nat.zero_le _, rfl, rfl⟩
  case round =>
    obtain ⟨k, hk, rfl, ha⟩ := hrel
    have HA := Lib.hid ha
    clear ha
    by_cases hlt : k < n
    · obtain ⟨b, o, rfl, hcell⟩ := HC.out.resolve_left (by intro h0; have := HN.out; rw [h0] at this; simp at this; omega)
      have h1 := hcell k (by rw [← HN.out]; exact hlt)
      clear hcell HC
      obtain ⟨x, hx⟩ : ∃ x, x = zs.getD k 0 := ⟨_, rfl⟩
      rw [← hx] at h1
      have HX := Lib.hid hx
      clear hx
      by_cases e1 : x = 1
      · have HO := Lib.hid (on1_snoc HA.out (by rw [← HN.out]; exact hlt) (by rw [← HX.out]; exact .inl e1))
        subst e1
        go_wp2
        go_round
        case rel => exact ⟨k + 1, by omega, by go_num, HO.out⟩
        case measure => simp [intOf]; omega
      · have f1 : (x != 1) = true := by simp [e1]
        by_cases e2 : x = -1
        · have HO := Lib.hid (on1_snoc HA.out (by rw [← HN.out]; exact hlt) (by rw [← HX.out]; exact .inr e2))
          subst e2
          clear f1
          go_wp2
          go_round
          case rel => exact ⟨k + 1, by omega, by go_num, HO.out⟩
          case measure => simp [intOf]; omega
        · have f2 : (x != -1) = true := by simp [e2]
          have HO := Lib.hid (show oneRow zs = false by rw [oneRow, on1_bad (k := k) (by rw [← HN.out]; exact hlt) (by rw [← HX.out]; exact e1) (by rw [← HX.out]; exact e2)]; rfl)
          clear e1 e2
          go_wp2
          go_ret
          exact ⟨ret_bool HO.out.symm, rfl⟩
    · have e : k = n := by omega
      have ha := HA.out
      rw [List.take_of_length_le (by rw [← HN.out]; omega)] at ha
      have HO := Lib.hid (show oneRow zs = vrow zs by rw [oneRow, ha]; rfl)
      clear ha e
      go_wp2_with (go_at_call 28; refine (validRow_any _ _ zs HH.out HL.out).mono ?_; rintro e w' ⟨rfl, rfl⟩)
      go_ret
      exact ⟨ret_bool HO.out.symm, rfl⟩
set_option maxHeartbeats 400000 in
theorem ones_any (w : World) (v : Value) (zs : List Int) (h : Rd w v zs) (hl : zs.length ≤ 1048576) :
    Calls Try.prog 34 #[v] w fun e w' => e = .returned (.bool (on1 zs)) ∧ w = w' := by
  obtain ⟨a, cap, rfl, hlc, hm, hc⟩ := h
  obtain ⟨n, hn⟩ : ∃ n, n = zs.length := ⟨_, rfl⟩
  rw [← hn] at hlc hl ⊢
  have HN := Lib.hid hn
  have HC := Lib.hid hc
  clear hc hn hm
  go_enter Try.func34, Try.ntmps34
  go_wp2
  go_loop [4, 7] (fun _ i => ∃ k : Nat, k ≤ n ∧ i = .int .i64 k ∧ on1 (zs.take k) = true) (fun _ i => n - (intOf i).toNat)
  case atStart => exact ⟨0, Nat.zero_le _, rfl, rfl⟩
  case round =>
    obtain ⟨k, hk, rfl, ha⟩ := hrel
    have HA := Lib.hid ha
    clear ha
    by_cases hlt : k < n
    · obtain ⟨b, o, rfl, hcell⟩ := HC.out.resolve_left (by intro h0; have := HN.out; rw [h0] at this; simp at this; omega)
      have h1 := hcell k (by rw [← HN.out]; exact hlt)
      clear hcell HC
      obtain ⟨x, hx⟩ : ∃ x, x = zs.getD k 0 := ⟨_, rfl⟩
      rw [← hx] at h1
      have HX := Lib.hid hx
      clear hx
      by_cases e1 : x = 1
      · have HO := Lib.hid (on1_snoc HA.out (by rw [← HN.out]; exact hlt) (by rw [← HX.out]; exact .inl e1))
        subst e1
        go_wp2
        go_round
        case rel => exact ⟨k + 1, by omega, by go_num, HO.out⟩
        case measure => simp [intOf]; omega
      · have f1 : (x != 1) = true := by simp [e1]
        by_cases e2 : x = -1
        · have HO := Lib.hid (on1_snoc HA.out (by rw [← HN.out]; exact hlt) (by rw [← HX.out]; exact .inr e2))
          subst e2
          clear f1
          go_wp2
          go_round
          case rel => exact ⟨k + 1, by omega, by go_num, HO.out⟩
          case measure => simp [intOf]; omega
        · have f2 : (x != -1) = true := by simp [e2]
          have HO := Lib.hid (on1_bad (k := k) (by rw [← HN.out]; exact hlt) (by rw [← HX.out]; exact e1) (by rw [← HX.out]; exact e2))
          clear e1 e2
          go_wp2
          go_ret
          exact ⟨ret_bool HO.out.symm, rfl⟩
    · have e : k = n := by omega
      have ha := HA.out
      rw [List.take_of_length_le (by rw [← HN.out]; omega)] at ha
      have HO := Lib.hid ha
      clear ha e
      go_wp2
      go_ret
      exact ⟨ret_bool HO.out.symm, rfl⟩
set_option maxHeartbeats 800000 in
theorem specIsQuiet_any (w : World) (v : Value) (zs : List Int) (h : Rd w v zs) (hl : zs.length ≤ 1048576) :
    Calls Try.prog 16 #[v] w fun e w' => e = .returned (.bool (retIsQuiet zs)) ∧ Below w.heap.size w w' := by
  have h' := h
  have HL := Lib.hid hl
  obtain ⟨a, cap, rfl, hlc, hm, hc⟩ := h'
  by_cases hv : oneRow zs = true
  · have hv2 : vrow zs = true := by simp only [oneRow, Bool.and_eq_true] at hv; exact hv.2
    have hl16 := vrow_len hv2
    have HV2 := Lib.hid hv2
    by_cases h0 : 1 ≤ zs.length
    · have HR := Lib.hid (show retIsQuiet zs = allB (-1) 1 ((seTo zs zs.length).drop 1) by simp [retIsQuiet, hv]; omega)
      have hDl : (seTo zs zs.length).length = zs.length := seTo_len _ _
      have HG := Lib.hid (drop1_get (seTo zs zs.length))
      obtain ⟨S, hS⟩ : ∃ S, S = seTo zs zs.length := ⟨_, rfl⟩
      rw [← hS] at HR hDl HG
      have HS := Lib.hid hS
      obtain ⟨n, hn⟩ : ∃ n, n = zs.length := ⟨_, rfl⟩
      rw [← hn] at h h0 hlc hl16 hl hDl ⊢
      have HH := Lib.hid h
      have HN := Lib.hid hn
      have HDl := Lib.hid hDl
      have z5 : ((n : Int) == 0) = false := by simp; omega
      clear hc hm h hn hv2 hS hDl
      go_enter Try.func16, Try.ntmps16
      go_wp2_with (first | (go_at_call 31; refine (onlySigns_any _ _ zs HH.out HL.out).mono ?_; rintro e w' ⟨rfl, rfl⟩) | (go_at_call 32; refine (itself_any _ _ zs HH.out HV2.out).mono ?_; rintro e w1 ⟨r, rfl, hr, hb⟩; rw [← HS.out] at hr; have hrd := Lib.hid hr.rd; clear hr; obtain ⟨a1, c1, rfl, hq1, hq2, hq3⟩ := hrd.out; have HQ := Lib.hid hq3; rw [HDl.out] at hq1 ⊢; clear hq3 hq2 hrd))
      go_loop [4] (fun i => ∃ k : Nat, k + 1 ≤ n ∧ i = .int .i64 ((k : Int) + 1) ∧ allB (-1) 1 ((S.drop 1).take k) = true) (fun i => n - (intOf i).toNat)
      case atStart => exact ⟨0, by omega, rfl, rfl⟩
      case round =>
        obtain ⟨k, hk, rfl, ha⟩ := hrel
        have HA := Lib.hid ha
        clear ha
        by_cases hlt : k + 1 < n
        · obtain ⟨b, o, rfl, hcell⟩ := HQ.out.resolve_left (by intro hh; have := HDl.out; rw [hh] at this; simp at this; omega)
          have h1 : w1.cell? ⟨b, o + (k + 1), none⟩ = some (.int .i64 (S.getD (k + 1) 0)) := hcell (k + 1) (by rw [HDl.out]; exact hlt)
          rw [← HG.out k] at h1
          clear hcell HQ
          have HK := Lib.hid (show k < (S.drop 1).length by rw [List.length_drop, HDl.out]; omega)
          obtain ⟨x, hx⟩ : ∃ x, x = (S.drop 1).getD k 0 := ⟨_, rfl⟩
          rw [← hx] at h1
          have HX := Lib.hid hx
          clear hx
          have s3 : ((k : Int) + 1).toNat = k + 1 := by omega
          by_cases hb' : -1 ≤ x ∧ x ≤ 1
          · obtain ⟨hb0, hb1⟩ := hb'
            have HO := Lib.hid (allB_snoc HA.out HK.out (by rw [← HX.out]; exact hb0) (by rw [← HX.out]; exact hb1))
            go_wp2_with (go_at_call 33; refine (inRange_yes _ _ _ _ hb0 hb1).mono ?_; rintro e w' ⟨rfl, rfl⟩)
            clear s3
            go_round
            case rel => exact ⟨k + 1, by omega, by go_num, HO.out⟩
            case measure => simp [intOf]; omega
          · have hb2 : x < -1 ∨ 1 < x := by omega
            have HO := Lib.hid (allB_bad (lo := -1) (hi := 1) HK.out (by rw [← HX.out]; exact hb2))
            clear hb'
            go_wp2_with (go_at_call 33; refine (inRange_no _ _ _ _ hb2).mono ?_; rintro e w' ⟨rfl, rfl⟩)
            go_ret
            exact ⟨ret_bool (by rw [HR.out, HO.out]), hb⟩
        · have ha := HA.out
          rw [List.take_of_length_le (by rw [List.length_drop, HDl.out]; omega)] at ha
          have HO := Lib.hid ha
          clear ha
          go_wp2
          go_ret
          exact ⟨ret_bool (by rw [HR.out, HO.out]), hb⟩
    · have HR := Lib.hid (show retIsQuiet zs = false by simp [retIsQuiet, h0])
      have hz : zs.length = 0 := by omega
      rw [hz] at h ⊢
      have HH := Lib.hid h
      clear hc hm h hz hlc h0 hl16
      go_enter Try.func16, Try.ntmps16
      go_wp2_with (go_at_call 31; refine (onlySigns_any _ _ zs HH.out HL.out).mono ?_; rintro e w' ⟨rfl, rfl⟩)
      go_ret
      exact ⟨ret_bool HR.out.symm, Below.refl _ _⟩
  · have hv' : oneRow zs = false := by simpa using hv
    have HR := Lib.hid (show retIsQuiet zs = false by simp [retIsQuiet, hv'])
    clear hv
    go_enter Try.func16, Try.ntmps16
    go_wp2_with (go_at_call 31; refine (onlySigns_any _ _ zs h hl).mono ?_; rintro e w' ⟨rfl, rfl⟩)
    go_ret
    exact ⟨ret_bool HR.out.symm, Below.refl _ _⟩
set_option maxHeartbeats 1600000 in
theorem implIsQuiet_any (w : World) (v : Value) (zs : List Int) (h : Rd w v zs) (hl : zs.length ≤ 1048576) :
    Calls Try.prog 17 #[v] w fun e w' => e = .returned (.bool (retIsQuiet zs)) ∧ Below w.heap.size w w' := by
  have h' := h
  have HL := Lib.hid hl
  obtain ⟨a, cap, rfl, hlc, hm, hc⟩ := h'
  by_cases hv2 : vrow zs = true
  · have hl16 := vrow_len hv2
    have HV2 := Lib.hid hv2
    by_cases h0 : 1 ≤ zs.length
    · by_cases hv : on1 zs = true
      · have HR := Lib.hid (show retIsQuiet zs = allB (-1) 1 ((seTo zs zs.length).drop 1) by simp [retIsQuiet, oneRow, hv, hv2]; omega)
        have hDl : (seTo zs zs.length).length = zs.length := seTo_len _ _
        have HG := Lib.hid (drop1_get (seTo zs zs.length))
        have HSE := Lib.hid (show resSelfOf zs = seTo zs zs.length by rw [resSelfOf, if_pos hv2])
        obtain ⟨S, hS⟩ : ∃ S, S = seTo zs zs.length := ⟨_, rfl⟩
        rw [← hS] at HR hDl HG HSE
        obtain ⟨n, hn⟩ : ∃ n, n = zs.length := ⟨_, rfl⟩
        rw [← hn] at h h0 hlc hl16 hl hDl ⊢
        have HH := Lib.hid h
        have HN := Lib.hid hn
        have HDl := Lib.hid hDl
        have z5 : ((n : Int) == 0) = false := by simp; omega
        clear hc hm h hn hS hDl
        go_enter Try.func17, Try.ntmps17
        go_wp2_with fail
        refine (implValidRow_any _ _ zs HH.out HL.out).mono ?_; rintro e w' ⟨rfl, rfl⟩
        go_wp2_with fail
        refine (ones_any _ _ zs HH.out HL.out).mono ?_; rintro e w' ⟨rfl, rfl⟩
        go_wp2_with fail
        refine (implSelfOf_any _ _ zs HH.out HL.out).mono ?_; rintro e w1 ⟨r, rfl, hr, hb⟩
        rw [HSE.out] at hr
        have hrd := Lib.hid hr.rd; clear hr; obtain ⟨a1, c1, rfl, hq1, hq2, hq3⟩ := hrd.out; have HQ := Lib.hid hq3; rw [HDl.out] at hq1 ⊢; clear hq3 hq2 hrd
        by_cases hc1 : c1 = 1
        · subst hc1
          have hn1 : n = 1 := by omega
          subst hn1
          have HO := Lib.hid (show allB (-1) 1 (S.drop 1) = true by rw [List.drop_of_length_le (by rw [HDl.out]; omega)]; rfl)
          go_wp2
          refine wp_loop_rounds 1 ?_; rw [rounds_succ]; go_wp2
          go_ret
          exact ⟨ret_bool (by rw [HR.out, HO.out]), hb⟩
        · obtain ⟨m, rfl⟩ : ∃ m, n = m + 1 := ⟨n - 1, by omega⟩
          have s1 : m + 1 - 1 = m := by omega
          have s2 : 1 ≤ m + 1 := by omega
          have s3 : 1 ≤ c1 := by omega
          go_wp2
          clear s1 s2 s3
          go_loop [4, 22] (fun _ i => ∃ k : Nat, k ≤ m ∧ i = .int .i64 k ∧ allB (-1) 1 ((S.drop 1).take k) = true) (fun _ i => m - (intOf i).toNat)
          case atStart => exact ⟨0, by omega, rfl, rfl⟩
          case round =>
            obtain ⟨k, hk, rfl, ha⟩ := hrel
            have HA := Lib.hid ha
            clear ha
            by_cases hlt : k < m
            · obtain ⟨b, o, rfl, hcell⟩ := HQ.out.resolve_left (by intro hh; have := HDl.out; rw [hh] at this; simp at this)
              have h1 : w1.cell? ⟨b, o + 1 + k, none⟩ = some (.int .i64 (S.getD (k + 1) 0)) := by rw [show o + 1 + k = o + (k + 1) by omega]; exact hcell (k + 1) (by rw [HDl.out]; omega)
              rw [← HG.out k] at h1
              clear hcell HQ
              have HK := Lib.hid (show k < (S.drop 1).length by rw [List.length_drop, HDl.out]; omega)
              obtain ⟨x, hx⟩ : ∃ x, x = (S.drop 1).getD k 0 := ⟨_, rfl⟩
              rw [← hx] at h1
              have HX := Lib.hid hx
              clear hx
              by_cases hb0 : x < -1
              · have HO := Lib.hid (allB_bad (lo := -1) (hi := 1) HK.out (by rw [← HX.out]; exact .inl hb0))
                go_wp2
                go_ret
                exact ⟨ret_bool (by rw [HR.out, HO.out]), hb⟩
              by_cases hb1 : 1 < x
              · have HO := Lib.hid (allB_bad (lo := -1) (hi := 1) HK.out (by rw [← HX.out]; exact .inr hb1))
                go_wp2
                go_ret
                exact ⟨ret_bool (by rw [HR.out, HO.out]), hb⟩
              have HO := Lib.hid (allB_snoc HA.out HK.out (by rw [← HX.out]; omega) (by rw [← HX.out]; omega))
              go_wp2
              go_round
              case rel => exact ⟨k + 1, by omega, by go_num, HO.out⟩
              case measure => simp [intOf]; omega
            · have ha := HA.out
              rw [List.take_of_length_le (by rw [List.length_drop, HDl.out]; omega)] at ha
              have HO := Lib.hid ha
              clear ha
              go_wp2
              go_ret
              exact ⟨ret_bool (by rw [HR.out, HO.out]), hb⟩
      · have hv' : on1 zs = false := by simpa using hv
        have HR := Lib.hid (show retIsQuiet zs = false by simp [retIsQuiet, oneRow, hv'])
        obtain ⟨n, hn⟩ : ∃ n, n = zs.length := ⟨_, rfl⟩
        rw [← hn] at h h0 hlc hl16 hl ⊢
        have HH := Lib.hid h
        have z5 : ((n : Int) == 0) = false := by simp; omega
        clear hc hm h hn hv
        go_enter Try.func17, Try.ntmps17
        go_wp2_with fail
        refine (implValidRow_any _ _ zs HH.out HL.out).mono ?_; rintro e w' ⟨rfl, rfl⟩
        go_wp2_with fail
        refine (ones_any _ _ zs HH.out HL.out).mono ?_; rintro e w' ⟨rfl, rfl⟩
        go_wp2_with fail
        go_ret
        exact ⟨ret_bool HR.out.symm, Below.refl _ _⟩
    · have HR := Lib.hid (show retIsQuiet zs = false by simp [retIsQuiet, h0])
      have hz : zs.length = 0 := by omega
      rw [hz] at h ⊢
      have HH := Lib.hid h
      clear hc hm h hz hlc h0 hl16
      go_enter Try.func17, Try.ntmps17
      go_wp2_with (go_at_call 30; refine (implValidRow_any _ _ zs HH.out HL.out).mono ?_; rintro e w' ⟨rfl, rfl⟩)
      go_ret
      exact ⟨ret_bool HR.out.symm, Below.refl _ _⟩
  · have hv' : vrow zs = false := by simpa using hv2
    have HR := Lib.hid (show retIsQuiet zs = false by simp [retIsQuiet, oneRow, hv'])
    clear hv2
    go_enter Try.func17, Try.ntmps17
    go_wp2_with (go_at_call 30; refine (implValidRow_any _ _ zs h hl).mono ?_; rintro e w' ⟨rfl, rfl⟩)
    go_ret
    exact ⟨ret_bool HR.out.symm, Below.refl _ _⟩
end Go.Proofs.Ytjakoeamnmdcmaa
