/- The walk of FnMissesOf: for every code the law returns true and nothing that was there is changed. No conditions. -/
import Derived.Test.YtfbflokkjgbabaaDrawM
import Derived.Test.YtfbflokkjgbabaaMiss6b
import Derived.Test.YtfbflokkjgbabaaEq
namespace Go.Proofs.Ytfbflokkjgbabaa
open Go.RowKit
theorem eq_yesM (W : World) (v v' : Value) (zs zs' : List Int) (h : Rd W v zs) (h' : Rd W v' zs') (e : zs = zs') :
    Calls Try.prog 9 #[v, v'] W fun e w' => e = .returned (.bool true) ∧ W.grownBy w' none :=
  (eqL_any W v v' zs zs' h h').mono fun _ _ ⟨he, hq⟩ => ⟨by rw [he, decide_eq_true e], hq.grown⟩
/-- The letters of the pattern that are no ?, of the first k. -/
def plN (p : ByteArray) : Nat → Nat
  | 0 => 0
  | k + 1 => plN p k + if bt p k ≠ 63 then 1 else 0
theorem plN_le (p : ByteArray) (k : Nat) : plN p k ≤ k := by
  induction k with
  | zero => exact Nat.le_refl _
  | succ k ih => simp only [plN]; split <;> omega
theorem ms_pl (s p : ByteArray) (i k : Nat) : msTo s p i k ≤ plN p k := by
  induction k with
  | zero => exact Nat.le_refl _
  | succ k ih =>
    simp only [msTo, plN]
    by_cases h : bt p k ≠ 63
    · rw [if_pos h]; split <;> omega
    · rw [if_neg (fun hh => h hh.1), if_neg h]; omega
set_option maxHeartbeats 1000000 in
theorem law_FnMissesOf (w : World) (a : Option Addr) (n c : Nat) (bs : List Int) (h : Rdb w (.slice a n c) bs) :
    Calls Try.prog 5 #[.slice a n c] w fun e w' => e = .returned (.bool true) ∧ Below w.heap.size w w' := by
  have HN := Lib.hid (drawMissesOf_any w _ bs h)
  clear h
  by_cases hn : 1048576 < n
  · clear HN
    go_enter Try.func5, Try.ntmps5
    go_wp2
    go_ret
    exact ⟨rfl, Below.refl _ _⟩
  go_enter Try.func5, Try.ntmps5
  go_wp2_with fail
  refine HN.out.mono ?_; rintro e w1 ⟨s, p, rfl, hs, hp, b1⟩
  clear HN
  have HG := Lib.hid (fun (s : ByteArray) k (h : k < s.size) => bt_get h)
  obtain ⟨D, hD⟩ : ∃ D, D = resMissesOf s p := ⟨_, rfl⟩
  have HS := Lib.hid (fun W : World => specMissesOf_any W s p (by omega) (by omega))
  have HI := Lib.hid (fun W : World => implMissesOf_any W s p (by omega) (by omega))
  rw [← hD] at HS HI
  go_wp2_with fail
  refine (HI.out _).mono ?_; rintro e w2 ⟨r, rfl, o2, bb⟩
  have b2 := b1.grown (Below.grownBy bb) b1.size (by simp)
  have o2 := o2.mono b1.size
  clear b1 bb
  go_wp2_with fail
  refine (HS.out _).mono ?_; rintro e w3 ⟨rs, rfl, o3, bb⟩
  have b3 := b2.grown (Below.grownBy bb) b2.size (by simp)
  have o2 := o2.keep (Below.grownBy bb)
  clear b2 bb
  go_wp2_with fail
  refine (eq_yesM _ _ _ D D o2.rd o3.rd rfl).mono ?_; rintro e w4 ⟨rfl, g⟩
  have b4 := b3.grown g b3.size (by simp)
  have o4 := o2.keep g
  clear b3 g o2 o3
  obtain ⟨a5, c5, rfl, q1, q2, -⟩ := o4.rd
  unfold maxLen at q2
  by_cases hz : D.length = 0
  · obtain rfl : D = [] := List.eq_nil_of_length_eq_zero hz
    clear hD hz
    go_wp2_with fail
    refine (HS.out _).mono ?_; rintro e w5 ⟨rs, rfl, o5, bb⟩
    have b5 := b4.grown (Below.grownBy bb) b4.size (by simp)
    have o4 := o4.keep (Below.grownBy bb)
    clear b4 bb
    go_wp2_with fail
    refine (eq_yesM _ _ _ [] [] o4.rd o5.rd rfl).mono ?_; rintro e w6 ⟨rfl, g⟩
    have b6 := b5.grown g b5.size (by simp)
    go_wp2_with fail
    go_ret
    exact ⟨rfl, b6⟩
  · have hok : okM2 s p = true := by
      by_cases h : okM2 s p = true
      · exact h
      · rw [hD, resMissesOf, if_neg h] at hz; exact absurd rfl hz
    obtain ⟨l1, l2, l3⟩ := okM2_len hok
    have hDt : D = tab (s.size + 1 - p.size) (msF s p) := by rw [hD, resMissesOf, if_pos hok]
    have hDl : D.length = s.size + 1 - p.size := by rw [hDt, tab_len]
    rw [hDl] at o4 hz q1 ⊢
    rw [hDt] at o4
    obtain ⟨N, hN⟩ : ∃ N, N = s.size + 1 - p.size := ⟨_, rfl⟩
    rw [← hN] at o4 hz q1 ⊢
    obtain ⟨g, rfl, -, -, hrow⟩ := o4.cut (by omega)
    have HR := Lib.hid hrow
    have HNN := Lib.hid hN
    have z1 : ((N : Int) == 0) = false := by rw [beq_eq_false_iff_ne]; omega
    have z2 : (s.size : Int) - (p.size : Int) + 1 = (N : Int) := by omega
    have HZ2 := Lib.hid z2
    have hN21 : N ≤ 21 := by omega
    clear hD hDt hDl hok o4 hrow HS HI hN hz z2
    go_wp2_with fail
    clear z1
    go_loop [6, 7] (fun t i => ∃ k : Nat, k ≤ p.size ∧ i = .int .i64 k ∧ t = .int .i64 (plN p k : Nat)) (fun _ i => p.size - (intOf i).toNat)
    case atStart => exact ⟨0, Nat.zero_le _, rfl, rfl⟩
    case round =>
      obtain ⟨k, hk, rfl, rfl⟩ := hrel
      have hle := plN_le p k
      by_cases hlt : k < p.size
      · have b1 := HG.out p k hlt
        have HN := Lib.hid (show plN p (k + 1) = plN p k + if bt p k ≠ 63 then 1 else 0 from rfl)
        obtain ⟨x, hx⟩ : ∃ x, x = bt p k := ⟨_, rfl⟩
        obtain ⟨y, hy⟩ : ∃ y, y = plN p k := ⟨_, rfl⟩
        rw [← hx] at b1 HN
        rw [← hy] at hle HN ⊢
        clear hx hy
        have s1 : (k : Int) < (p.size : Int) := by omega
        by_cases h63 : x = 63
        · have g3 : ((x : Int) != 63) = false := by rw [h63]; rfl
          have HE := Lib.hid (show plN p (k + 1) = y by rw [HN.out, if_neg (by simpa using h63)]; rfl)
          clear h63 HN
          go_wp2
          go_round
          case rel => exact ⟨k + 1, by omega, by go_num, by rw [HE.out]⟩
          case measure => simp [intOf]; omega
        · have g3 : ((x : Int) != 63) = true := by rw [bne_iff_ne]; omega
          have HE := Lib.hid (show plN p (k + 1) = y + 1 by rw [HN.out, if_pos h63])
          clear h63 HN
          go_wp2
          go_round
          case rel => exact ⟨k + 1, by omega, by go_num, by rw [HE.out]; go_num⟩
          case measure => simp [intOf]; omega
      · have e : k = p.size := by omega
        have HPL := Lib.hid (show ∀ i, msF s p i ≤ ((plN p k : Nat) : Int) from fun i => by rw [e, msF]; have := ms_pl s p i p.size; omega)
        have hki : (p.size : Int) ≤ (k : Int) := by omega
        obtain ⟨T, hT⟩ : ∃ T, T = plN p k := ⟨_, rfl⟩
        rw [← hT] at HPL ⊢
        clear e hT hle
        go_wp2
        clear hlt hk
        go_loop [8] (fun i => ∃ j : Nat, j ≤ N ∧ i = .int .i64 j) (fun i => N - (intOf i).toNat)
        case atStart => exact ⟨0, Nat.zero_le _, rfl⟩
        case round =>
          obtain ⟨j, hj, rfl⟩ := hrel
          by_cases hlt : j < N
          · have c1 := HR.out.getT j hlt
            have u1 := HPL.out j
            have u0 : 0 ≤ msF s p j := by rw [msF]; omega
            obtain ⟨x, hx⟩ : ∃ x, x = msF s p j := ⟨_, rfl⟩
            rw [← hx] at c1 u1 u0
            clear hx
            have d1 : decide (x < 0) = false := decide_eq_false (by omega)
            have d2 : decide ((T : Int) < x) = false := decide_eq_false (by omega)
            have e1 : ¬ x < 0 := by omega
            have e2 : ¬ (T : Int) < x := by omega
            go_wp2
            go_round
            case rel => exact ⟨j + 1, by omega, by go_num⟩
            case measure => simp [intOf]; omega
          · have z2 := HZ2.out
            go_wp2
            go_ret
            exact ⟨ret_bool (by simp), b4⟩
end Go.Proofs.Ytfbflokkjgbabaa
