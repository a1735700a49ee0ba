/- The walk of FnSumCounts: for every code the law returns true and nothing that was there is changed. No conditions. -/
import Derived.Test.YtfbflokkjgbabaaDraw6
import Derived.Test.YtfbflokkjgbabaaCdLaw
import Derived.Test.YtfbflokkjgbabaaEq
namespace Go.Proofs.Ytfbflokkjgbabaa
open Go.RowKit
theorem eq_yes6 (W : World) (v v' : Value) (zs zs' : List Int) (h : Rd W v zs) (h' : Rd W v' zs') (e : zs = zs') :
    Calls Try.prog 9 #[v, v'] W fun e w' => e = .returned (.bool true) ∧ W.grownBy w' none :=
  (eqL_any W v v' zs zs' h h').mono fun _ _ ⟨he, hq⟩ => ⟨by rw [he, decide_eq_true e], hq.grown⟩
set_option maxHeartbeats 400000 in
theorem total13 (w : World) (lo g c : Nat) (S : List Int) (h : Row w lo g 13 c S) (hb : cntB 169 S) :
    Calls Try.prog 12 #[.slice (some ⟨g, 0, none⟩) 13 c] w fun e w' => e = .returned (.int .i64 (tt S 13)) ∧ w = w' := by
  have HH := Lib.hid h
  have HB := Lib.hid hb
  clear h hb
  go_enter Try.func12, Try.ntmps12
  go_wp2
  go_loop [3, 4] (fun s i => ∃ k : Nat, k ≤ 13 ∧ i = .int .i64 k ∧ s = .int .i64 (tt S k)) (fun _ i => 13 - (intOf i).toNat)
  case atStart => exact ⟨0, Nat.zero_le _, rfl, rfl⟩
  case round =>
    obtain ⟨k, hk, rfl, rfl⟩ := hrel
    have hb := tt_bd HB.out k
    have hx := HB.out k
    by_cases hlt : k < 13
    · have c1 := HH.out.get k hlt
      have HN := Lib.hid (show tt S (k + 1) = tt S k + S.getD k 0 from rfl)
      obtain ⟨x, hxx⟩ : ∃ x, x = S.getD k 0 := ⟨_, rfl⟩
      obtain ⟨y, hy⟩ : ∃ y, y = tt S k := ⟨_, rfl⟩
      rw [← hxx] at c1 hx HN
      rw [← hy] at hb HN ⊢
      clear hxx hy
      go_wp2
      go_round
      case rel => exact ⟨k + 1, by omega, by go_num, by rw [HN.out]⟩
      case measure => simp [intOf]; omega
    · have e : k = 13 := by omega
      have HE := Lib.hid e
      clear e
      go_wp2
      go_ret
      exact ⟨ret_int (by rw [HE.out]), rfl⟩
set_option maxHeartbeats 1000000 in
theorem law_FnSumCounts (w : World) (a : Option Addr) (n c : Nat) (bs : List Int) (h : Rdb w (.slice a n c) bs) :
    Calls Try.prog 3 #[.slice a n c] w fun e w' => e = .returned (.bool true) ∧ Below w.heap.size w w' := by
  have HN := Lib.hid (drawSumCounts_any w _ bs h)
  clear h
  by_cases hn : 1048576 < n
  · clear HN
    go_enter Try.func3, Try.ntmps3
    go_wp2
    go_ret
    exact ⟨rfl, Below.refl _ _⟩
  go_enter Try.func3, Try.ntmps3
  go_wp2_with fail
  refine HN.out.mono ?_; rintro e w1 ⟨x, y, rfl, b1⟩
  clear HN
  obtain ⟨D, hD⟩ : ∃ D, D = resSumCounts x y := ⟨_, rfl⟩
  have HS := Lib.hid (fun W : World => specSumCounts_any W x y)
  have HI := Lib.hid (fun W : World => implSumCounts_any W x y)
  rw [← hD] at HS HI
  go_wp2_with fail
  refine (HI.out _).mono ?_; rintro e w2 ⟨r, rfl, o2, bb⟩
  have b2 := b1.grown (Below.grownBy bb) b1.size (by simp)
  have o2 := o2.mono b1.size
  clear b1 bb
  go_wp2_with fail
  refine (HS.out _).mono ?_; rintro e w3 ⟨rs, rfl, o3, bb⟩
  have b3 := b2.grown (Below.grownBy bb) b2.size (by simp)
  have o2 := o2.keep (Below.grownBy bb)
  clear b2 bb
  go_wp2_with fail
  refine (eq_yes6 _ _ _ D D o2.rd o3.rd rfl).mono ?_; rintro e w4 ⟨rfl, g⟩
  have b4 := b3.grown g b3.size (by simp)
  have o4 := o2.keep g
  clear b3 g o2 o3
  by_cases hok : okSumCounts x y = true
  rotate_left
  · have hR : D = [] := by rw [hD, resSumCounts, if_neg hok]
    subst hR
    obtain ⟨a5, c5, rfl, -, -, -⟩ := o4.rd
    clear hD hok
    go_wp2_with fail
    refine (HS.out _).mono ?_; rintro e w5 ⟨rs, rfl, o5, bb⟩
    have b5 := b4.grown (Below.grownBy bb) b4.size (by simp)
    have o4 := o4.keep (Below.grownBy bb)
    clear b4 bb
    go_wp2_with fail
    refine (eq_yes6 _ _ _ [] [] o4.rd o5.rd rfl).mono ?_; rintro e w6 ⟨rfl, g⟩
    have b6 := b5.grown g b5.size (by simp)
    go_wp2_with fail
    go_ret
    exact ⟨rfl, b6⟩
  · obtain ⟨ha, hb⟩ : okM x = true ∧ okM y = true := by simpa [okSumCounts] using hok
    obtain ⟨p, rfl, hp⟩ := okM_ex ha
    obtain ⟨q, rfl, hq⟩ := okM_ex hb
    have hR : D = scTo p q 13 := by rw [hD, resSumCounts, if_pos hok, Int.toNat_natCast, Int.toNat_natCast]
    have HJ := Lib.hid (fun W : World => implSumSet_any W (p : Int) (q : Int))
    have hR2 : retSumSet (p : Int) (q : Int) = (ssTo p q 13 : Nat) := by rw [retSumSet, if_pos hok, Int.toNat_natCast, Int.toNat_natCast]
    rw [hR2] at HJ
    have hlt := ssTo_lt p q 13
    have e13 : (2 : Nat) ^ 13 = 8192 := by decide
    rw [e13] at hlt
    have HBIT := Lib.hid (sc_bit p q)
    have HL := Lib.hid (scTo_len p q 13)
    have HB := Lib.hid (show cntB 169 (scTo p q 13) from fun j => by have := scTo_bd p q 13 j; omega)
    have HT := Lib.hid (tt_all p q)
    have HO1 := Lib.hid (fun W : World => onesL_any p W hp)
    have HO2 := Lib.hid (fun W : World => onesL_any q W hq)
    have t1 := popF_le 13 p
    have t2 := popF_le 13 q
    rw [show popF 13 p = popN p from rfl] at t1
    rw [show popF 13 q = popN q from rfl] at t2
    rw [← hR] at HBIT HL HB HT
    obtain ⟨S, hS⟩ : ∃ S, S = ssTo p q 13 := ⟨_, rfl⟩
    rw [← hS] at HJ hlt HBIT
    obtain ⟨P1, h1⟩ : ∃ P1, P1 = popN p := ⟨_, rfl⟩
    rw [← h1] at HT HO1 t1
    obtain ⟨P2, h2⟩ : ∃ P2, P2 = popN q := ⟨_, rfl⟩
    rw [← h2] at HT HO2 t2
    clear h1 h2 hS hR2 ha hb hok e13 hR hD HS HI
    obtain ⟨g, c5, rfl, -, -, hrow⟩ := o4.row (by rw [HL.out]; omega)
    rw [HL.out] at hrow ⊢
    clear o4
    go_wp2_with fail
    refine (HJ.out _).mono ?_; rintro e w5 ⟨rfl, bb⟩
    have b5 := b4.grown (Below.grownBy bb) b4.size (by simp)
    have hrow := hrow.keep (Below.grownBy bb)
    clear b4 bb
    have HR := Lib.hid hrow
    clear hrow
    go_wp2
    go_loop [6, 7] (fun s i => ∃ k : Nat, k ≤ 13 ∧ i = .int .i64 k ∧ s = .int .i64 ((S / pw2 k : Nat) : Int)) (fun _ i => 13 - (intOf i).toNat)
    case atStart => exact ⟨0, Nat.zero_le _, rfl, by simp [pw2]⟩
    case round =>
      obtain ⟨k, hk, rfl, rfl⟩ := hrel
      by_cases hltk : k < 13
      · have c1 := HR.out.get k hltk
        have hbit := HBIT.out k
        have d1 : S / pw2 k ≤ S := Nat.div_le_self _ _
        have HN := Lib.hid (show S / pw2 (k + 1) = S / pw2 k / 2 by rw [pw2, Nat.mul_comm, Nat.div_div_eq_div_mul])
        obtain ⟨u, hu⟩ : ∃ u, u = D.getD k 0 := ⟨_, rfl⟩
        obtain ⟨v, hv⟩ : ∃ v, v = S / pw2 k := ⟨_, rfl⟩
        rw [← hu] at c1 hbit
        rw [← hv] at hbit d1 HN ⊢
        clear hu hv
        by_cases hodd : v % 2 = 1
        · have hu0 : 0 < u := hbit.2 hodd
          have hodd' : (v : Int) % 2 = 1 := by omega
          have hde : decide (0 < u) = true := decide_eq_true hu0
          clear hbit hodd
          go_wp2_with fail
          go_round
          case rel => exact ⟨k + 1, by omega, by go_num, by rw [HN.out]; go_num⟩
          case measure => simp [intOf]; omega
        · have hu0 : ¬ 0 < u := fun h => hodd (hbit.1 h)
          have hodd' : (v : Int) % 2 = 0 := by omega
          have hde : decide (0 < u) = false := decide_eq_false hu0
          clear hbit hodd
          go_wp2_with fail
          go_round
          case rel => exact ⟨k + 1, by omega, by go_num, by rw [HN.out]; go_num⟩
          case measure => simp [intOf]; omega
      · have e : k = 13 := by omega
        clear e
        have HT2 := Lib.hid (total13 w5 _ _ _ _ HR.out HB.out)
        rw [HT.out] at HT2
        have m1 := Nat.mul_le_mul t1 t2
        have hmul : ((P1 * P2 : Nat) : Int) = (P1 : Int) * (P2 : Int) := by simp
        rw [hmul] at HT2
        have m2 : 0 ≤ (P1 : Int) * (P2 : Int) ∧ (P1 : Int) * (P2 : Int) ≤ 169 := by rw [← hmul]; omega
        obtain ⟨m3, m4⟩ := m2
        clear hmul m1
        go_wp2_with fail
        refine HT2.out.mono ?_; rintro e w' ⟨rfl, rfl⟩
        go_wp2_with fail
        refine (HO1.out _).mono ?_; rintro e w' ⟨rfl, rfl⟩
        go_wp2_with fail
        refine (HO2.out _).mono ?_; rintro e w' ⟨rfl, rfl⟩
        go_wp2_with fail
        go_ret
        exact ⟨ret_bool (by simp), b5⟩
end Go.Proofs.Ytfbflokkjgbabaa
