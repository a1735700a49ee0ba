/- ChangesIn: the reference and the program answer the same. Conditions: none. -/
import Derived.Test.YtlnjfgmodfkiiaaOnes6
import Derived.Test.YtlnjfgmodfkiiaaRng
namespace Go.Proofs.Ytlnjfgmodfkiiaa
open Go.RowKit
/-- Whether the sign changes behind j. -/
def flip2 (y j : Nat) : Nat := if popN (j &&& y) % 2 = popN ((j + 1) &&& y) % 2 then 0 else 1
/-- The changes ahead of j. -/
def chA (y : Nat) : Nat → Nat
  | 0 => 0
  | j + 1 => chA y j + flip2 y j
theorem chA_le (y j : Nat) : chA y j ≤ j := by
  induction j with
  | zero => exact Nat.le_refl _
  | succ j ih => simp only [chA, flip2]; split <;> omega
def okChg (k y : Int) : Prop := 0 ≤ k ∧ k ≤ 4 ∧ 0 ≤ y ∧ y < (pw2 k.toNat : Nat)
instance (k y : Int) : Decidable (okChg k y) := inferInstanceAs (Decidable (_ ∧ _))
def retChangesIn (k y : Int) : Int := if okChg k y then (chA y.toNat (pw2 k.toNat - 1) : Nat) else -1
theorem pw2_16 {k : Nat} (h : k ≤ 4) : pw2 k ≤ 16 := Nat.le_trans (pw2_mono h) (by decide)
theorem and15 (a b : Nat) (ha : a ≤ 15) (hb : b ≤ 15) : bits .and .i64 (a : Int) (b : Int) = ((a &&& b : Nat) : Int) := and20 a b (by omega) (by omega)
theorem and_le15 {a b : Nat} (ha : a ≤ 15) : a &&& b ≤ 15 := Nat.le_trans Nat.and_le_left ha
theorem odd_any (x : Nat) (w : World) (hx : x ≤ 8191) :
    Calls Try.prog 37 #[.int .i64 x] w fun e w' => e = .returned (.bool (decide (popN x % 2 = 1))) ∧ w = w' := by
  have hp := popF_le 13 x
  have HC := Lib.hid (fun W : World => onesC_any x W hx)
  obtain ⟨p, hpp⟩ : ∃ p, p = popN x := ⟨_, rfl⟩
  rw [show popF 13 x = p from hpp.symm] at hp
  rw [← hpp] at HC ⊢
  clear hpp
  by_cases h : p % 2 = 1
  · have h' : (p : Int) % 2 = 1 := by omega
    have hd := Lib.hid (show decide (p % 2 = 1) = true by simp [h])
    clear h
    go_enter Try.func37, Try.ntmps37
    go_wp2_with (go_at_call 40; refine (HC.out _).mono ?_; rintro e w' ⟨rfl, rfl⟩)
    go_ret
    exact ⟨ret_bool hd.out.symm, rfl⟩
  · have h' : (p : Int) % 2 = 0 := by omega
    have hd := Lib.hid (show decide (p % 2 = 1) = false by simp [h])
    clear h
    go_enter Try.func37, Try.ntmps37
    go_wp2_with (go_at_call 40; refine (HC.out _).mono ?_; rintro e w' ⟨rfl, rfl⟩)
    go_ret
    exact ⟨ret_bool hd.out.symm, rfl⟩
set_option maxHeartbeats 1000000 in
theorem specChangesIn_any (w : World) (k y : Int) :
    Calls Try.prog 23 #[.int .i64 k, .int .i64 y] w fun e w' => e = .returned (.int .i64 (retChangesIn k y)) ∧ w = w' := by
  by_cases hk : 0 ≤ k ∧ k ≤ 4
  · obtain ⟨h1, h2⟩ := hk
    obtain ⟨k, rfl⟩ := Int.eq_ofNat_of_zero_le h1
    have hk4 : k ≤ 4 := by omega
    have Pk := Lib.hid (show ∀ W : World, Calls Try.prog 38 #[.int .i64 k] W fun e w' => e = .returned (.int .i64 (pw2 k : Nat)) ∧ W = w' from fun W => power2_any k W (by omega))
    have p1 := pw2_pos k
    have p2 := pw2_16 hk4
    by_cases hy : 0 ≤ y ∧ y < (pw2 k : Nat)
    · have HR := Lib.hid (show retChangesIn k y = (chA y.toNat (pw2 k - 1) : Nat) from if_pos ⟨h1, h2, hy.1, hy.2⟩)
      obtain ⟨P, hP⟩ : ∃ P, P = pw2 k := ⟨_, rfl⟩
      rw [← hP] at Pk p1 p2 hy HR
      clear hP
      obtain ⟨h3, h4⟩ := hy
      obtain ⟨y, rfl⟩ := Int.eq_ofNat_of_zero_le h3
      have hy15 : y ≤ 15 := by omega
      rw [show (y : Int).toNat = y from Int.toNat_natCast y] at HR
      have hyP : (y : Int) ≤ (P : Int) - 1 := by omega
      clear h4
      go_enter Try.func23, Try.ntmps23
      go_wp2_with fail
      refine (inRange_yes _ _ _ _ (by omega) (by omega)).mono ?_; rintro e w' ⟨rfl, rfl⟩
      go_wp2_with fail
      refine (Pk.out _).mono ?_; rintro e w' ⟨rfl, rfl⟩
      go_wp2_with fail
      refine (inRange_yes _ _ _ _ (by omega) (by omega)).mono ?_; rintro e w' ⟨rfl, rfl⟩
      go_wp2_with fail
      go_wp2
      go_loop [5, 6] (fun n x => ∃ j : Nat, j + 1 ≤ P ∧ x = .int .i64 ((j : Int) + 1) ∧ n = .int .i64 (chA y j : Nat)) (fun _ x => P - (intOf x).toNat)
      case atStart => exact ⟨0, by omega, rfl, rfl⟩
      case round =>
        obtain ⟨j, hj, rfl, rfl⟩ := hrel
        have hc := chA_le y j
        have HN := Lib.hid (show chA y (j + 1) = chA y j + flip2 y j from rfl)
        by_cases hlt : j + 1 < P
        · have hj15 : j + 1 ≤ 15 := by omega
          have e1 := and15 (j + 1) y hj15 hy15
          have e2 := and15 j y (by omega) hy15
          rw [show ((j + 1 : Nat) : Int) = (j : Int) + 1 by omega] at e1
          have b1 := @and_le15 (j + 1) y hj15
          have b2 := @and_le15 j y (by omega)
          have HF := Lib.hid (show flip2 y j = if popN (j &&& y) % 2 = popN ((j + 1) &&& y) % 2 then 0 else 1 from rfl)
          obtain ⟨u, hu⟩ : ∃ u, u = (j + 1) &&& y := ⟨_, rfl⟩
          obtain ⟨v, hv⟩ : ∃ v, v = j &&& y := ⟨_, rfl⟩
          rw [← hu] at e1 b1 HF
          rw [← hv] at e2 b2 HF
          clear hu hv
          have Bu := Lib.hid (show ∀ W : World, Calls Try.prog 39 #[.int .i64 u] W fun e w' => e = .returned (.int .i64 (popN u : Nat)) ∧ W = w' from fun W => ones_any u W (by omega))
          have Bv := Lib.hid (show ∀ W : World, Calls Try.prog 39 #[.int .i64 v] W fun e w' => e = .returned (.int .i64 (popN v : Nat)) ∧ W = w' from fun W => ones_any v W (by omega))
          have q1 := popF_le 13 u
          have q2 := popF_le 13 v
          rw [show popF 13 u = popN u from rfl] at q1
          rw [show popF 13 v = popN v from rfl] at q2
          obtain ⟨p, hp⟩ : ∃ p, p = popN u := ⟨_, rfl⟩
          obtain ⟨q, hq⟩ : ∃ q, q = popN v := ⟨_, rfl⟩
          rw [← hp] at q1 Bu HF
          rw [← hq] at q2 Bv HF
          clear hp hq
          by_cases hpq : q % 2 = p % 2
          · have HN := Lib.hid (show chA y (j + 1) = chA y j by rw [HN.out, HF.out, if_pos hpq]; rfl)
            have hi : (p : Int) % 2 = (q : Int) % 2 := by omega
            obtain ⟨c, hcc⟩ : ∃ c, c = chA y j := ⟨_, rfl⟩
            rw [← hcc] at hc HN ⊢
            clear hpq HF hcc
            go_wp2_with (go_at_call 38; refine (Pk.out _).mono ?_; rintro e w' ⟨rfl, rfl⟩)
            refine (Bu.out _).mono ?_; rintro e w' ⟨rfl, rfl⟩
            go_wp2_with fail
            refine (Bv.out _).mono ?_; rintro e w' ⟨rfl, rfl⟩
            go_wp2_with fail
            go_round
            case rel => exact ⟨j + 1, by omega, by go_num, by rw [HN.out]⟩
            case measure => simp [intOf]; omega
          · have HN := Lib.hid (show chA y (j + 1) = chA y j + 1 by rw [HN.out, HF.out, if_neg hpq])
            have hi : ¬ (p : Int) % 2 = (q : Int) % 2 := by omega
            obtain ⟨c, hcc⟩ : ∃ c, c = chA y j := ⟨_, rfl⟩
            rw [← hcc] at hc HN ⊢
            clear hpq HF hcc
            go_wp2_with (go_at_call 38; refine (Pk.out _).mono ?_; rintro e w' ⟨rfl, rfl⟩)
            refine (Bu.out _).mono ?_; rintro e w' ⟨rfl, rfl⟩
            go_wp2_with fail
            refine (Bv.out _).mono ?_; rintro e w' ⟨rfl, rfl⟩
            go_wp2_with fail
            go_round
            case rel => exact ⟨j + 1, by omega, by go_num, by rw [HN.out]; go_num⟩
            case measure => simp [intOf]; omega
        · have e : P = j + 1 := by omega
          have HE := Lib.hid (show P - 1 = j by omega)
          clear hlt
          go_wp2_with (go_at_call 38; refine (Pk.out _).mono ?_; rintro e w' ⟨rfl, rfl⟩)
          go_ret
          exact ⟨ret_int (by rw [HR.out, HE.out]), rfl⟩
    · have HR := Lib.hid (show retChangesIn k y = -1 from if_neg (fun h => hy ⟨h.2.2.1, h.2.2.2⟩))
      obtain ⟨P, hP⟩ : ∃ P, P = pw2 k := ⟨_, rfl⟩
      rw [← hP] at Pk p1 p2 hy
      clear hP
      have hy' := Lib.hid (show y < 0 ∨ (P : Int) - 1 < y by omega)
      clear hy
      go_enter Try.func23, Try.ntmps23
      go_wp2_with fail
      refine (inRange_yes _ _ _ _ (by omega) (by omega)).mono ?_; rintro e w' ⟨rfl, rfl⟩
      go_wp2_with fail
      refine (Pk.out _).mono ?_; rintro e w' ⟨rfl, rfl⟩
      go_wp2_with fail
      refine (inRange_no _ _ _ _ hy'.out).mono ?_; rintro e w' ⟨rfl, rfl⟩
      go_wp2_with fail
      go_ret
      exact ⟨ret_int HR.out.symm, rfl⟩
  · have HR := Lib.hid (show retChangesIn k y = -1 from if_neg (fun h => hk ⟨h.1, h.2.1⟩))
    have hk' := Lib.hid (show k < 0 ∨ 4 < k by omega)
    clear hk
    go_enter Try.func23, Try.ntmps23
    go_wp2_with fail
    refine (inRange_no _ _ _ _ hk'.out).mono ?_; rintro e w' ⟨rfl, rfl⟩
    go_wp2_with fail
    go_ret
    exact ⟨ret_int HR.out.symm, rfl⟩
set_option maxHeartbeats 1000000 in
theorem implChangesIn_any (w : World) (k y : Int) :
    Calls Try.prog 22 #[.int .i64 k, .int .i64 y] w fun e w' => e = .returned (.int .i64 (retChangesIn k y)) ∧ w = w' := by
  by_cases h1 : 0 ≤ k
  rotate_left
  · have HR := Lib.hid (show retChangesIn k y = -1 from if_neg (fun h => h1 h.1))
    go_enter Try.func22, Try.ntmps22
    go_wp2
    go_ret
    exact ⟨ret_int HR.out.symm, rfl⟩
  by_cases h2 : k ≤ 4
  rotate_left
  · have HR := Lib.hid (show retChangesIn k y = -1 from if_neg (fun h => h2 h.2.1))
    go_enter Try.func22, Try.ntmps22
    go_wp2
    go_ret
    exact ⟨ret_int HR.out.symm, rfl⟩
  by_cases h3 : 0 ≤ y
  rotate_left
  · have HR := Lib.hid (show retChangesIn k y = -1 from if_neg (fun h => h3 h.2.2.1))
    go_enter Try.func22, Try.ntmps22
    go_wp2
    go_ret
    exact ⟨ret_int HR.out.symm, rfl⟩
  obtain ⟨k, rfl⟩ := Int.eq_ofNat_of_zero_le h1
  obtain ⟨y, rfl⟩ := Int.eq_ofNat_of_zero_le h3
  have hk4 : k ≤ 4 := by omega
  have p1 := pw2_pos k
  have p2 := pw2_16 hk4
  have SH := Lib.hid (shl_one64 k (by omega))
  by_cases h4 : y < pw2 k
  · have HR := Lib.hid (show retChangesIn k y = (chA y (pw2 k - 1) : Nat) from if_pos ⟨h1, h2, h3, by rw [show ((k : Int)).toNat = k from Int.toNat_natCast k]; omega⟩)
    obtain ⟨P, hP⟩ : ∃ P, P = pw2 k := ⟨_, rfl⟩
    rw [← hP] at p1 p2 h4 HR SH
    clear hP
    have hy15 : y ≤ 15 := by omega
    have hd4 : decide (P ≤ y) = false := decide_eq_false (by omega)
    have h4' : (y : Int) < (P : Int) := by omega
    clear h4
    go_enter Try.func22, Try.ntmps22
    have sh := SH.out
    go_wp2
    clear sh
    go_loop [5, 6] (fun n x => ∃ j : Nat, j + 1 ≤ P ∧ x = .int .i64 ((j : Nat) : Int) ∧ n = .int .i64 (chA y j : Nat)) (fun _ x => P - (intOf x).toNat)
    case atStart => exact ⟨0, by omega, rfl, rfl⟩
    case round =>
      obtain ⟨j, hj, rfl, rfl⟩ := hrel
      have hc := chA_le y j
      have HN := Lib.hid (show chA y (j + 1) = chA y j + flip2 y j from rfl)
      by_cases hlt : j + 1 < P
      · have hj15 : j + 1 ≤ 15 := by omega
        have e1 := and15 (j + 1) y hj15 hy15
        have e2 := and15 j y (by omega) hy15
        rw [show ((j + 1 : Nat) : Int) = (j : Int) + 1 by omega] at e1
        have b1 := @and_le15 (j + 1) y hj15
        have b2 := @and_le15 j y (by omega)
        have HF := Lib.hid (show flip2 y j = if popN (j &&& y) % 2 = popN ((j + 1) &&& y) % 2 then 0 else 1 from rfl)
        obtain ⟨u, hu⟩ : ∃ u, u = (j + 1) &&& y := ⟨_, rfl⟩
        obtain ⟨v, hv⟩ : ∃ v, v = j &&& y := ⟨_, rfl⟩
        rw [← hu] at e1 b1 HF
        rw [← hv] at e2 b2 HF
        clear hu hv
        have Bu := Lib.hid (show ∀ W : World, Calls Try.prog 37 #[.int .i64 u] W fun e w' => e = .returned (.bool (decide (popN u % 2 = 1))) ∧ W = w' from fun W => odd_any u W (by omega))
        have Bv := Lib.hid (show ∀ W : World, Calls Try.prog 37 #[.int .i64 v] W fun e w' => e = .returned (.bool (decide (popN v % 2 = 1))) ∧ W = w' from fun W => odd_any v W (by omega))
        obtain ⟨p, hp⟩ : ∃ p, p = popN u := ⟨_, rfl⟩
        obtain ⟨q, hq⟩ : ∃ q, q = popN v := ⟨_, rfl⟩
        rw [← hp] at Bu HF
        rw [← hq] at Bv HF
        clear hp hq
        obtain ⟨c, hcc⟩ : ∃ c, c = chA y j := ⟨_, rfl⟩
        rw [← hcc] at hc HN ⊢
        clear hcc
        have hlt' : (j : Int) + 1 < (P : Int) := by omega
        have HD := Lib.hid (show (decide (q % 2 = 1) = decide (p % 2 = 1)) ↔ q % 2 = p % 2 by rw [decide_eq_decide]; omega)
        obtain ⟨x, hx⟩ : ∃ x, x = decide (p % 2 = 1) := ⟨_, rfl⟩
        obtain ⟨z, hz⟩ : ∃ z, z = decide (q % 2 = 1) := ⟨_, rfl⟩
        rw [← hx] at Bu HD
        rw [← hz] at Bv HD
        clear hx hz
        by_cases hpq : q % 2 = p % 2
        · have HN := Lib.hid (show chA y (j + 1) = c by rw [HN.out, HF.out, if_pos hpq]; rfl)
          obtain rfl := HD.out.2 hpq
          have ht : (!(z == z)) = false := by simp
          clear hpq HF HD
          have sh := SH.out
          go_wp2_with fail
          clear sh
          refine (Bv.out _).mono ?_; rintro e w' ⟨rfl, rfl⟩
          go_wp2_with fail
          refine (Bu.out _).mono ?_; rintro e w' ⟨rfl, rfl⟩
          go_wp2_with fail
          go_round
          case rel => exact ⟨j + 1, by omega, by go_num, by rw [HN.out]⟩
          case measure => simp [intOf]; omega
        · have HN := Lib.hid (show chA y (j + 1) = c + 1 by rw [HN.out, HF.out, if_neg hpq])
          have ht : (!(z == x)) = true := by have hne : ¬ z = x := fun h => hpq (HD.out.1 h)
                                             simpa using hne
          clear hpq HF HD
          have sh := SH.out
          go_wp2_with fail
          clear sh
          refine (Bv.out _).mono ?_; rintro e w' ⟨rfl, rfl⟩
          go_wp2_with fail
          refine (Bu.out _).mono ?_; rintro e w' ⟨rfl, rfl⟩
          go_wp2_with fail
          go_round
          case rel => exact ⟨j + 1, by omega, by go_num, by rw [HN.out]; go_num⟩
          case measure => simp [intOf]; omega
      · have e : P = j + 1 := by omega
        have HE := Lib.hid (show P - 1 = j by omega)
        have hlt' : (P : Int) = (j : Int) + 1 := by omega
        clear hlt
        have sh := SH.out
        go_wp2
        clear sh
        go_ret
        exact ⟨ret_int (by rw [HR.out, HE.out]), rfl⟩
  · have HR := Lib.hid (show retChangesIn k y = -1 from if_neg (fun h => h4 (by have := h.2.2.2; rw [show ((k : Int)).toNat = k from Int.toNat_natCast k] at this; omega)))
    obtain ⟨P, hP⟩ : ∃ P, P = pw2 k := ⟨_, rfl⟩
    rw [← hP] at p1 p2 h4 SH
    clear hP
    have h4' : (P : Int) ≤ (y : Int) := by omega
    clear h4
    go_enter Try.func22, Try.ntmps22
    have sh := SH.out
    go_wp2
    go_ret
    exact ⟨ret_int HR.out.symm, rfl⟩
end Go.Proofs.Ytlnjfgmodfkiiaa
