/- IsSparse: the reference and the program answer the same. Conditions: none. -/
import Derived.Test.YtfbflokkjgbabaaPow
import Derived.Test.YtfbflokkjgbabaaRng
namespace Go.Proofs.Ytfbflokkjgbabaa
open Go.RowKit
/-- The place of a sum. -/
def pl (x y : Nat) : Nat := (x + y) % 13
theorem pl_lt (x y : Nat) : pl x y < 13 := Nat.mod_lt _ (by omega)
/-- The sums of place x and the last m places, added to what was seen; none if one was there. -/
def inF (a x : Nat) : Nat → Nat → Option Nat
  | 0, z => some z
  | m + 1, z =>
    if bitN a x = 0 ∨ bitN a (12 - m) = 0 then inF a x m z
    else if bitN z (pl x (12 - m)) = 1 then none
    else inF a x m (z + pw2 (pl x (12 - m)))
/-- The sums of the last m places. -/
def outF (a : Nat) : Nat → Nat → Bool
  | 0, _ => true
  | m + 1, z => match inF a (12 - m) (m + 1) z with
    | none => false
    | some z' => outF a m z'
def contF (a x m m' z : Nat) : Bool := match inF a x m' z with
  | none => false
  | some z' => outF a m z'
def apartN (a : Nat) : Bool := outF a 13 0
theorem outF_cont (a m z : Nat) : outF a (m + 1) z = contF a (12 - m) m (m + 1) z := rfl
theorem contF_end (a x m z : Nat) : contF a x m 0 z = outF a m z := rfl
theorem contF_skip {a x m m' z : Nat} (h : bitN a x = 0 ∨ bitN a (12 - m') = 0) : contF a x m (m' + 1) z = contF a x m m' z := by
  simp only [contF, inF]; rw [if_pos h]
theorem contF_dead {a x m m' z : Nat} (h1 : bitN a x = 1) (h2 : bitN a (12 - m') = 1) (h3 : bitN z (pl x (12 - m')) = 1) : contF a x m (m' + 1) z = false := by
  simp only [contF, inF]; rw [if_neg (by omega), if_pos h3]
theorem contF_step {a x m m' z : Nat} (h1 : bitN a x = 1) (h2 : bitN a (12 - m') = 1) (h3 : bitN z (pl x (12 - m')) ≠ 1) : contF a x m (m' + 1) z = contF a x m m' (z + pw2 (pl x (12 - m'))) := by
  simp only [contF, inF]; rw [if_neg (by omega), if_neg h3]
theorem seen_lt {z t : Nat} (hz : z ≤ 8191) (ht : t < 13) (h : bitN z t ≠ 1) : z + pw2 t ≤ 8191 := by
  have := or_lt z t 13 (by omega) ht
  rw [or_add z t h] at this
  omega
set_option maxHeartbeats 1000000 in
theorem apart_any (a : Nat) (w : World) (ha : a ≤ 8191) :
    Calls Try.prog 40 #[.int .i64 a] w fun e w' => e = .returned (.bool (apartN a)) ∧ w = w' := by
  have HR := Lib.hid (show apartN a = outF a 13 0 from rfl)
  go_enter Try.func40, Try.ntmps40
  go_wp2
  go_loop [3, 4, 5, 6] (fun s i _ _ => ∃ x m z : Nat, x + m = 13 ∧ z ≤ 8191 ∧ i = .int .i64 x ∧ s = .int .i64 z ∧ outF a m z = apartN a) (fun _ i _ _ => 13 - (intOf i).toNat)
  case atStart => exact ⟨0, 13, 0, rfl, by omega, rfl, rfl, rfl⟩
  case round =>
    obtain ⟨x, m, z, hx, hz, rfl, rfl, ho⟩ := hrel
    have HO := Lib.hid ho
    have hx1 : x ≤ 13 := by omega
    cases m with
    | zero =>
      have hx2 : 13 ≤ x := by omega
      clear ho hx
      go_wp2
      go_ret
      exact ⟨ret_bool HO.out, rfl⟩
    | succ m =>
      have hx2 : x < 13 := by omega
      have hxm : m = 12 - x := by omega
      have HXM := Lib.hid hxm
      have HC := Lib.hid (show contF a x m (m + 1) z = apartN a by rw [← HO.out, outF_cont]; congr 1; omega)
      clear ho hx hxm HO
      go_wp2
      go_loop [3, 5, 6] (fun s i _ => ∃ y m' z : Nat, y + m' = 13 ∧ z ≤ 8191 ∧ i = .int .i64 y ∧ s = .int .i64 z ∧ contF a x m m' z = apartN a) (fun _ i _ => 13 - (intOf i).toNat)
      case atStart => exact ⟨x, m + 1, z, by have := HXM.out; omega, hz, rfl, rfl, HC.out⟩
      case round =>
        clear HC hz
        obtain ⟨y, m', z, hy, hz, rfl, rfl, hc⟩ := hrel
        have hy1 : y ≤ 13 := by omega
        cases m' with
        | zero =>
          have hy2 : 13 ≤ y := by omega
          have HC := Lib.hid ((contF_end a x m z).symm.trans hc)
          clear hc hy
          go_wp2
          go_round
          case rel => exact ⟨x + 1, m, z, by have := HXM.out; omega, hz, by go_num, rfl, HC.out⟩
          case measure => simp [intOf]; omega
        | succ m' =>
          have hy2 : y < 13 := by omega
          obtain rfl : y = 12 - m' := by omega
          have hm' : m' ≤ 12 := by omega
          have HC := Lib.hid hc
          clear hc hy
          obtain ⟨y, hyy⟩ : ∃ y, y = 12 - m' := ⟨_, rfl⟩
          have HS1 := Lib.hid (@contF_skip a x m m' z)
          have HS2 := Lib.hid (@contF_dead a x m m' z)
          have HS3 := Lib.hid (@contF_step a x m m' z)
          rw [← hyy] at hy1 hy2 HS1 HS2 HS3 ⊢
          have hym : y + m' = 12 := by omega
          have HYM := Lib.hid hym
          clear hyy hym
          have b1 := bitN_le a x
          have b2 := bitN_le a y
          have Bx := Lib.hid (show ∀ W : World, Calls Try.prog 24 #[.int .i64 a, .int .i64 x] W fun e w' => e = .returned (.int .i64 (bitN a x : Nat)) ∧ W = w' from fun W => bit_any a x W (by omega) (by omega))
          have By := Lib.hid (show ∀ W : World, Calls Try.prog 24 #[.int .i64 a, .int .i64 y] W fun e w' => e = .returned (.int .i64 (bitN a y : Nat)) ∧ W = w' from fun W => bit_any a y W (by omega) (by omega))
          obtain ⟨p, hp⟩ : ∃ p, p = bitN a x := ⟨_, rfl⟩
          obtain ⟨q, hq⟩ : ∃ q, q = bitN a y := ⟨_, rfl⟩
          rw [← hp] at b1 Bx HS1 HS2 HS3
          rw [← hq] at b2 By HS1 HS2 HS3
          clear hp hq
          by_cases e1 : p = 0
          · have HN := Lib.hid ((HS1.out (.inl e1)).symm.trans HC.out)
            subst e1
            go_wp2_with (go_at_call 24; refine (Bx.out _).mono ?_; rintro e w' ⟨rfl, rfl⟩)
            go_round
            case rel => exact ⟨y + 1, m', z, by have := HYM.out; omega, hz, by go_num, rfl, HN.out⟩
            case measure => simp [intOf]; omega
          obtain rfl : p = 1 := by omega
          by_cases e2 : q = 0
          · have HN := Lib.hid ((HS1.out (.inr e2)).symm.trans HC.out)
            subst e2
            clear e1
            go_wp2_with fail
            refine (Bx.out _).mono ?_; rintro e w' ⟨rfl, rfl⟩
            go_wp2_with fail
            refine (By.out _).mono ?_; rintro e w' ⟨rfl, rfl⟩
            go_wp2_with fail
            go_wp2
            go_round
            case rel => exact ⟨y + 1, m', z, by have := HYM.out; omega, hz, by go_num, rfl, HN.out⟩
            case measure => simp [intOf]; omega
          obtain rfl : q = 1 := by omega
          clear e1 e2
          have ht := pl_lt x y
          have hpl : ((x : Int) + (y : Int)) % 13 = ((pl x y : Nat) : Int) := rfl
          have HSL := Lib.hid (@seen_lt z (pl x y) hz ht)
          obtain ⟨t, htt⟩ : ∃ t, t = pl x y := ⟨_, rfl⟩
          rw [← htt] at ht hpl HS2 HS3 HSL
          clear htt
          have b3 := bitN_le z t
          have Bz := Lib.hid (show ∀ W : World, Calls Try.prog 24 #[.int .i64 z, .int .i64 t] W fun e w' => e = .returned (.int .i64 (bitN z t : Nat)) ∧ W = w' from fun W => bit_any z t W (by omega) (by omega))
          have Pt := Lib.hid (show ∀ W : World, Calls Try.prog 34 #[.int .i64 t] W fun e w' => e = .returned (.int .i64 (pw2 t : Nat)) ∧ W = w' from fun W => power2_any t W (by omega))
          obtain ⟨r, hr⟩ : ∃ r, r = bitN z t := ⟨_, rfl⟩
          obtain ⟨P, hP⟩ : ∃ P, P = pw2 t := ⟨_, rfl⟩
          rw [← hr] at b3 Bz HS2 HS3 HSL
          rw [← hP] at Pt HS3 HSL
          clear hr hP
          by_cases e3 : r = 1
          · have HN := Lib.hid ((HS2.out rfl rfl e3).symm.trans HC.out)
            subst e3
            go_wp2_with fail
            refine (Bx.out _).mono ?_; rintro e w' ⟨rfl, rfl⟩
            go_wp2_with fail
            refine (By.out _).mono ?_; rintro e w' ⟨rfl, rfl⟩
            go_wp2_with fail
            refine (Bz.out _).mono ?_; rintro e w' ⟨rfl, rfl⟩
            go_wp2_with fail
            go_ret
            exact ⟨ret_bool HN.out, rfl⟩
          · have HN := Lib.hid ((HS3.out rfl rfl e3).symm.trans HC.out)
            have hz2 := HSL.out e3
            obtain rfl : r = 0 := by omega
            clear e3
            go_wp2_with fail
            refine (Bx.out _).mono ?_; rintro e w' ⟨rfl, rfl⟩
            go_wp2_with fail
            refine (By.out _).mono ?_; rintro e w' ⟨rfl, rfl⟩
            go_wp2_with fail
            refine (Bz.out _).mono ?_; rintro e w' ⟨rfl, rfl⟩
            go_wp2_with fail
            refine (Pt.out _).mono ?_; rintro e w' ⟨rfl, rfl⟩
            go_wp2_with fail
            clear hpl
            go_round
            case rel => exact ⟨y + 1, m', z + P, by have := HYM.out; omega, hz2, by go_num, by go_num, HN.out⟩
            case measure => simp [intOf]; omega
/-- A set of places. -/
def okM (a : Int) : Bool := decide (0 ≤ a ∧ a ≤ 8191)
theorem okM_ex {a : Int} (h : okM a = true) : ∃ n : Nat, a = (n : Int) ∧ n ≤ 8191 := by
  simp only [okM, decide_eq_true_eq] at h
  exact ⟨a.toNat, by omega, by omega⟩
theorem okM_no {a : Int} (h : okM a = false) : a < 0 ∨ 8191 < a := by
  simp only [okM, decide_eq_false_iff_not] at h; omega
theorem okM_nat {n : Nat} (h : n ≤ 8191) : okM (n : Int) = true := by simp only [okM, decide_eq_true_eq]; omega
theorem pw2_13 : pw2 13 ≤ 8192 ∧ 8192 ≤ pw2 13 := by decide
theorem validMarks_any (a : Int) (w : World) :
    Calls Try.prog 23 #[.int .i64 a] w fun e w' => e = .returned (.bool (okM a)) ∧ w = w' := by
  have h13 := pw2_13
  have P := Lib.hid (show ∀ W : World, Calls Try.prog 34 #[.int .i64 13] W fun e w' => e = .returned (.int .i64 (pw2 13 : Nat)) ∧ W = w' from fun W => power2_any 13 W (by omega))
  obtain ⟨q, hq⟩ : ∃ q, q = pw2 13 := ⟨_, rfl⟩
  rw [← hq] at h13 P
  clear hq
  by_cases h : okM a = true
  · have H := Lib.hid h
    have hb : 0 ≤ a ∧ a ≤ 8191 := by simpa [okM] using h
    clear h
    go_enter Try.func23, Try.ntmps23
    go_wp2_with (first | (go_at_call 34; refine (P.out _).mono ?_; rintro e w' ⟨rfl, rfl⟩) | (go_at_call 33; refine (inRange_yes _ _ _ _ (by omega) (by omega)).mono ?_; rintro e w' ⟨rfl, rfl⟩))
    go_ret
    exact ⟨ret_bool H.out.symm, rfl⟩
  · have h' : okM a = false := by simpa using h
    have H := Lib.hid h'
    have hb := okM_no h'
    have HB := Lib.hid hb
    clear h h' hb
    go_enter Try.func23, Try.ntmps23
    go_wp2_with (first | (go_at_call 34; refine (P.out _).mono ?_; rintro e w' ⟨rfl, rfl⟩) | (go_at_call 33; refine (inRange_no _ _ _ _ (by have := HB.out; omega)).mono ?_; rintro e w' ⟨rfl, rfl⟩))
    go_ret
    exact ⟨ret_bool H.out.symm, rfl⟩
theorem setOk_any (a : Int) (w : World) :
    Calls Try.prog 22 #[.int .i64 a] w fun e w' => e = .returned (.bool (okM a)) ∧ w = w' := by
  by_cases h0 : 0 ≤ a
  · have H := Lib.hid (show decide (a < 8192) = okM a by unfold okM; rw [decide_eq_decide]; omega)
    go_enter Try.func22, Try.ntmps22
    go_wp2
    go_ret
    exact ⟨ret_bool H.out, rfl⟩
  · have H := Lib.hid (show okM a = false by unfold okM; rw [decide_eq_false_iff_not]; omega)
    go_enter Try.func22, Try.ntmps22
    go_wp2
    go_ret
    exact ⟨ret_bool H.out.symm, rfl⟩
set_option maxHeartbeats 1000000 in
theorem implSparse_yes (a : Nat) (w : World) (ha : a ≤ 8191) :
    Calls Try.prog 21 #[.int .i64 a] w fun e w' => e = .returned (.bool (apartN a)) ∧ w = w' := by
  have HR := Lib.hid (show apartN a = outF a 13 0 from rfl)
  have HOK := Lib.hid (okM_nat ha)
  go_enter Try.func21, Try.ntmps21
  go_wp2_with fail
  refine (setOk_any _ _).mono ?_; rintro e w' ⟨rfl, hww⟩; have e2 := HOK.out; rw [e2]; subst hww; clear e2
  go_wp2
  go_loop [3, 4, 5, 6, 10] (fun s _ _ _ i => ∃ x m z : Nat, x + m = 13 ∧ z ≤ 8191 ∧ i = .int .i64 x ∧ s = .int .i64 z ∧ outF a m z = apartN a) (fun _ _ _ _ i => 13 - (intOf i).toNat)
  case atStart => exact ⟨0, 13, 0, rfl, by omega, rfl, rfl, rfl⟩
  case round =>
    obtain ⟨x, m, z, hx, hz, rfl, rfl, ho⟩ := hrel
    have HO := Lib.hid ho
    have hx1 : x ≤ 13 := by omega
    cases m with
    | zero =>
      have hx2 : 13 ≤ x := by omega
      clear ho hx
      go_wp2
      go_ret
      exact ⟨ret_bool HO.out, rfl⟩
    | succ m =>
      have hx2 : x < 13 := by omega
      have hxm : m = 12 - x := by omega
      have HXM := Lib.hid hxm
      have HC := Lib.hid (show contF a x m (m + 1) z = apartN a by rw [← HO.out, outF_cont]; congr 1; omega)
      clear ho hx hxm HO
      go_wp2
      go_loop [3, 5, 6] (fun s i _ => ∃ y m' z : Nat, y + m' = 13 ∧ z ≤ 8191 ∧ i = .int .i64 y ∧ s = .int .i64 z ∧ contF a x m m' z = apartN a) (fun _ i _ => 13 - (intOf i).toNat)
      case atStart => exact ⟨x, m + 1, z, by have := HXM.out; omega, hz, rfl, rfl, HC.out⟩
      case round =>
        clear HC hz
        obtain ⟨y, m', z, hy, hz, rfl, rfl, hc⟩ := hrel
        have hy1 : y ≤ 13 := by omega
        cases m' with
        | zero =>
          have hy2 : 13 ≤ y := by omega
          have HC := Lib.hid ((contF_end a x m z).symm.trans hc)
          clear hc hy
          go_wp2
          go_round
          case rel => exact ⟨x + 1, m, z, by have := HXM.out; omega, hz, by go_num, rfl, HC.out⟩
          case measure => simp [intOf]; omega
        | succ m' =>
          have hy2 : y < 13 := by omega
          obtain rfl : y = 12 - m' := by omega
          have hm' : m' ≤ 12 := by omega
          have HC := Lib.hid hc
          clear hc hy
          obtain ⟨y, hyy⟩ : ∃ y, y = 12 - m' := ⟨_, rfl⟩
          have HS1 := Lib.hid (@contF_skip a x m m' z)
          have HS2 := Lib.hid (@contF_dead a x m m' z)
          have HS3 := Lib.hid (@contF_step a x m m' z)
          rw [← hyy] at hy1 hy2 HS1 HS2 HS3 ⊢
          have hym : y + m' = 12 := by omega
          have HYM := Lib.hid hym
          clear hyy hym
          have b1 := bitN_le a x
          have b2 := bitN_le a y
          have k1 := shr_and a x (by omega)
          have k2 := shr_and a y (by omega)
          obtain ⟨p, hp⟩ : ∃ p, p = bitN a x := ⟨_, rfl⟩
          obtain ⟨q, hq⟩ : ∃ q, q = bitN a y := ⟨_, rfl⟩
          rw [← hp] at b1 k1 HS1 HS2 HS3
          rw [← hq] at b2 k2 HS1 HS2 HS3
          clear hp hq
          by_cases e1 : p = 0
          · have HN := Lib.hid ((HS1.out (.inl e1)).symm.trans HC.out)
            subst e1
            go_wp2
            go_round
            case rel => exact ⟨y + 1, m', z, by have := HYM.out; omega, hz, by go_num, rfl, HN.out⟩
            case measure => simp [intOf]; omega
          obtain rfl : p = 1 := by omega
          by_cases e2 : q = 0
          · have HN := Lib.hid ((HS1.out (.inr e2)).symm.trans HC.out)
            subst e2
            clear e1
            go_wp2
            go_round
            case rel => exact ⟨y + 1, m', z, by have := HYM.out; omega, hz, by go_num, rfl, HN.out⟩
            case measure => simp [intOf]; omega
          obtain rfl : q = 1 := by omega
          clear e1 e2
          have ht := pl_lt x y
          have hsh : wrap64 (2 ^ ((x + y) % 13)) = ((pw2 (pl x y) : Nat) : Int) := shl_one64 (pl x y) (by omega)
          have HSL := Lib.hid (@seen_lt z (pl x y) hz ht)
          have hpb := pw2_bd (show pl x y ≤ 20 by omega)
          have ka := and20 z (pw2 (pl x y)) (by omega) (by have := pw2_mono (show pl x y ≤ 12 by omega); have e : pw2 12 = 4096 := by decide
                                                           omega)
          have ko := or20 z (pw2 (pl x y)) (by omega) (by have := pw2_mono (show pl x y ≤ 12 by omega); have e : pw2 12 = 4096 := by decide
                                                          omega)
          have kn := and_pw2 z (pl x y)
          have HOA := Lib.hid (or_add z (pl x y))
          obtain ⟨t, htt⟩ : ∃ t, t = pl x y := ⟨_, rfl⟩
          rw [← htt] at ht HS2 HS3 HSL hsh ka ko kn HOA hpb
          clear htt
          obtain ⟨P, hP⟩ : ∃ P, P = pw2 t := ⟨_, rfl⟩
          rw [← hP] at HS3 HSL hsh ka ko kn HOA hpb
          clear hP
          have kz : (((z &&& P : Nat) : Int) != 0) = decide (bitN z t = 1) := by
            rw [← kn, Bool.eq_iff_iff]; simp
          by_cases e3 : bitN z t = 1
          · have HN := Lib.hid ((HS2.out rfl rfl e3).symm.trans HC.out)
            rw [decide_eq_true e3] at kz
            have hne : (bits .and .i64 (z : Int) (P : Int) != 0) = true := by rw [ka]; exact kz
            clear e3 ka ko kn kz
            go_wp2
            go_ret
            exact ⟨ret_bool HN.out, rfl⟩
          · have HN := Lib.hid ((HS3.out rfl rfl e3).symm.trans HC.out)
            have hz2 := HSL.out e3
            rw [decide_eq_false e3] at kz
            have hne : (bits .and .i64 (z : Int) (P : Int) != 0) = false := by rw [ka]; exact kz
            rw [HOA.out e3] at ko
            clear e3 ka kn kz
            go_wp2
            clear hsh ko
            go_round
            case rel => exact ⟨y + 1, m', z + P, by have := HYM.out; omega, hz2, by go_num, by go_num, HN.out⟩
            case measure => simp [intOf]; omega
theorem implSparse_any (a : Int) (w : World) :
    Calls Try.prog 21 #[.int .i64 a] w fun e w' => e = .returned (.bool (okM a && apartN a.toNat)) ∧ w = w' := by
  by_cases h : okM a = true
  · obtain ⟨n, rfl, hn⟩ := okM_ex h
    have HR := Lib.hid (show (okM (n : Int) && apartN (n : Int).toNat) = apartN n by rw [h]; rfl)
    rw [HR.out]
    exact implSparse_yes n w hn
  · have h' : okM a = false := by simpa using h
    have H := Lib.hid h'
    have HR := Lib.hid (show (okM a && apartN a.toNat) = false by rw [h']; rfl)
    clear h h'
    go_enter Try.func21, Try.ntmps21
    go_wp2_with fail
    refine (setOk_any _ _).mono ?_; rintro e w' ⟨rfl, hww⟩; have e2 := H.out; rw [e2]; subst hww; clear e2
    go_wp2_with fail
    go_ret
    exact ⟨ret_bool HR.out.symm, rfl⟩
end Go.Proofs.Ytfbflokkjgbabaa
