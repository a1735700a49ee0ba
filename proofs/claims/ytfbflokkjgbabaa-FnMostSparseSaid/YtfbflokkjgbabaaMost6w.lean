/- MostSparse: the walks of the reference's search and of the program's loop. Conditions: none. -/
import Derived.Test.YtfbflokkjgbabaaMost6
namespace Go.Proofs.Ytfbflokkjgbabaa
open Go.RowKit
set_option maxHeartbeats 2000000 in
theorem mostS_any : ∀ m, m ≤ 13 → ∀ s, s < pw2 (13 - m) → ∀ w : World, Calls Try.prog 32 #[.int .i64 (s : Int), .int .i64 ((13 - m : Nat) : Int)] w fun e w' => e = .returned (.int .i64 (lpM m s s : Nat)) ∧ w = w' := by
  intro m
  induction m using Nat.strongRecOn with
  | _ m ih =>
    intro hm s hs w
    have IH := Lib.hid ih
    have h8 := Nat.lt_of_lt_of_le hs (pw_8192 (show 13 - m ≤ 13 by omega))
    obtain ⟨x0, hx0⟩ : ∃ x0, x0 = 13 - m := ⟨_, rfl⟩
    have HM := Lib.hid (show x0 + m = 13 by omega)
    rw [← hx0] at hs ⊢
    have HS := Lib.hid hs
    have hx13 : x0 ≤ 13 := by omega
    clear ih hs hx0 hm
    go_enter Try.func32, Try.ntmps32
    go_wp2
    go_loop [5, 6, 7, 8] (fun b x _ _ => ∃ y k best : Nat, y + k = 13 ∧ x0 ≤ y ∧ best ≤ 8191 ∧ x = .int .i64 y ∧ b = .int .i64 best ∧ lpM k s best = lpM m s s) (fun _ x _ _ => 13 - (intOf x).toNat)
    case atStart => exact ⟨x0, m, s, HM.out, Nat.le_refl _, by omega, rfl, rfl, rfl⟩
    case round =>
      obtain ⟨y, k, best, hy, hxy, hb, rfl, rfl, hl⟩ := hrel
      have HL := Lib.hid hl
      have HY := Lib.hid hy
      have hy1 : y ≤ 13 := by omega
      clear hl
      cases k with
      | zero =>
        have hy2 : 13 ≤ y := by omega
        clear hy
        go_wp2
        go_ret
        exact ⟨ret_int (by rw [← HL.out]; rfl), rfl⟩
      | succ k =>
        have hy2 : y < 13 := by omega
        have hyk : 12 - k = y := by omega
        have hsy : s < pw2 y := Nat.lt_of_lt_of_le HS.out (pw2_mono hxy)
        have hn := next_lt (m := k) (by omega) (by rw [hyk]; exact hsy)
        have hn2 := pw_8192 (show 13 - k ≤ 13 by omega)
        have HY1 := Lib.hid (@lpM_yes k s best)
        have HN1 := Lib.hid (@lpM_no k s best)
        rw [hyk] at hn HY1 HN1
        have Pt := Lib.hid (show ∀ W : World, Calls Try.prog 34 #[.int .i64 (y : Int)] W fun e w' => e = .returned (.int .i64 (pw2 y : Nat)) ∧ W = w' from fun W => power2_any y W (by omega))
        have At := Lib.hid (show ∀ W : World, Calls Try.prog 40 #[.int .i64 ((s : Int) + (pw2 y : Nat))] W fun e w' => e = .returned (.bool (apartN (s + pw2 y))) ∧ W = w' from fun W => apart_any (s + pw2 y) W (by omega))
        have p8 : pw2 y ≤ 8192 := by omega
        have Rt := Lib.hid (show ∀ W : World, Calls Try.prog 32 #[.int .i64 ((s : Int) + (pw2 y : Nat)), .int .i64 ((y : Int) + 1)] W fun e w' => e = .returned (.int .i64 (lpM k (s + pw2 y) (s + pw2 y) : Nat)) ∧ W = w' from fun W => by
          have := IH.out k (by have := HM.out; omega) (by omega) (s + pw2 y) hn W
          rw [show ((13 - k : Nat) : Int) = (y : Int) + 1 by omega] at this
          exact this)
        have ho := lpM_le k (by omega) (s + pw2 y) (s + pw2 y) hn (by omega)
        have HBT := Lib.hid (fun (h : popN best < popN (lpM k (s + pw2 y) (s + pw2 y))) => show bet (lpM k (s + pw2 y) (s + pw2 y)) best = lpM k (s + pw2 y) (s + pw2 y) from if_pos (.inl h))
        have HBT2 := Lib.hid (fun (h : popN (lpM k (s + pw2 y) (s + pw2 y)) = popN best ∧ lpM k (s + pw2 y) (s + pw2 y) < best) => show bet (lpM k (s + pw2 y) (s + pw2 y)) best = lpM k (s + pw2 y) (s + pw2 y) from if_pos (.inr h))
        have HBT3 := Lib.hid (fun (h : ¬ (popN best < popN (lpM k (s + pw2 y) (s + pw2 y)) ∨ (popN (lpM k (s + pw2 y) (s + pw2 y)) = popN best ∧ lpM k (s + pw2 y) (s + pw2 y) < best))) => show bet (lpM k (s + pw2 y) (s + pw2 y)) best = best from if_neg h)
        obtain ⟨q, hq⟩ : ∃ q, q = pw2 y := ⟨_, rfl⟩
        rw [← hq] at hn HY1 HN1 Pt At Rt ho HBT HBT2 HBT3 p8
        obtain ⟨o, hoo⟩ : ∃ o, o = lpM k (s + q) (s + q) := ⟨_, rfl⟩
        rw [← hoo] at HY1 Rt ho HBT HBT2 HBT3
        obtain ⟨t, htt⟩ : ∃ t, t = apartN (s + q) := ⟨_, rfl⟩
        rw [← htt] at HY1 HN1 At
        have O1 := Lib.hid (show ∀ W : World, Calls Try.prog 41 #[.int .i64 (o : Int)] W fun e w' => e = .returned (.int .i64 (popN o : Nat)) ∧ W = w' from fun W => ones_any o W ho)
        have O2 := Lib.hid (show ∀ W : World, Calls Try.prog 41 #[.int .i64 (best : Int)] W fun e w' => e = .returned (.int .i64 (popN best : Nat)) ∧ W = w' from fun W => ones_any best W hb)
        obtain ⟨po, hpo⟩ : ∃ po, po = popN o := ⟨_, rfl⟩
        obtain ⟨pb, hpb⟩ : ∃ pb, pb = popN best := ⟨_, rfl⟩
        rw [← hpo] at O1 HBT HBT2 HBT3
        rw [← hpb] at O2 HBT HBT2 HBT3
        have q8 : s + q ≤ 8192 := by omega
        clear hq hoo htt hpo hpb hn hn2 hsy hyk hy
        cases t with
        | false =>
          have HN2 := Lib.hid ((HN1.out rfl).symm.trans HL.out)
          go_wp2_with fail
          refine (Pt.out _).mono ?_; rintro e w' ⟨rfl, rfl⟩
          go_wp2_with fail
          refine (At.out _).mono ?_; rintro e w' ⟨rfl, rfl⟩
          go_wp2_with fail
          go_round
          case rel => exact ⟨y + 1, k, best, by have := HY.out; omega, by omega, hb, by go_num, rfl, HN2.out⟩
          case measure => simp [intOf]; omega
        | true =>
          have HN2 := Lib.hid ((HY1.out rfl).symm.trans HL.out)
          go_wp2_with fail
          refine (Pt.out _).mono ?_; rintro e w' ⟨rfl, rfl⟩
          go_wp2_with fail
          refine (At.out _).mono ?_; rintro e w' ⟨rfl, rfl⟩
          go_wp2_with fail
          refine (Rt.out _).mono ?_; rintro e w' ⟨rfl, rfl⟩
          go_wp2_with fail
          refine (O1.out _).mono ?_; rintro e w' ⟨rfl, rfl⟩
          go_wp2_with fail
          refine (O2.out _).mono ?_; rintro e w' ⟨rfl, rfl⟩
          by_cases h1 : pb < po
          · have HE := Lib.hid (HBT.out h1)
            have h1' : (pb : Int) < (po : Int) := by omega
            go_wp2_with fail
            go_round
            case rel => exact ⟨y + 1, k, o, by have := HY.out; omega, by omega, ho, by go_num, rfl, by rw [← HN2.out, HE.out]⟩
            case measure => simp [intOf]; omega
          · have h1' : ¬ (pb : Int) < (po : Int) := by omega
            have h1d : decide ((pb : Int) < (po : Int)) = false := decide_eq_false h1'
            go_wp2_with fail
            refine (O1.out _).mono ?_; rintro e w' ⟨rfl, rfl⟩
            go_wp2_with fail
            refine (O2.out _).mono ?_; rintro e w' ⟨rfl, rfl⟩
            by_cases h2 : po = pb
            · by_cases h3 : o < best
              · have HE := Lib.hid (HBT2.out ⟨h2, h3⟩)
                subst h2
                have h3' : (o : Int) < (best : Int) := by omega
                go_wp2_with fail
                go_round
                case rel => exact ⟨y + 1, k, o, by have := HY.out; omega, by omega, ho, by go_num, rfl, by rw [← HN2.out, HE.out]⟩
                case measure => simp [intOf]; omega
              · have HE := Lib.hid (HBT3.out (by omega))
                subst h2
                have h3' : ¬ (o : Int) < (best : Int) := by omega
                go_wp2_with fail
                go_round
                case rel => exact ⟨y + 1, k, best, by have := HY.out; omega, by omega, hb, by go_num, rfl, by rw [← HN2.out, HE.out]⟩
                case measure => simp [intOf]; omega
            · have HE := Lib.hid (HBT3.out (by omega))
              have h2' : ((po : Int) == (pb : Int)) = false := by rw [beq_eq_false_iff_ne]; omega
              go_wp2_with fail
              go_round
              case rel => exact ⟨y + 1, k, best, by have := HY.out; omega, by omega, hb, by go_num, rfl, by rw [← HN2.out, HE.out]⟩
              case measure => simp [intOf]; omega
theorem specMost_any (w : World) : Calls Try.prog 20 #[] w fun e w' => e = .returned (.int .i64 83) ∧ w = w' := by
  have H := Lib.hid (mostS_any 13 (Nat.le_refl _) 0 (by decide))
  rw [most_spec] at H
  go_enter Try.func20, Try.ntmps20
  go_wp2_with fail
  refine (H.out _).mono ?_; rintro e w' ⟨rfl, rfl⟩
  go_wp2_with fail
  go_ret
  exact ⟨rfl, rfl⟩
set_option maxHeartbeats 1000000 in
theorem implMost_any (w : World) : Calls Try.prog 19 #[] w fun e w' => e = .returned (.int .i64 83) ∧ w = w' := by
  go_enter Try.func19, Try.ntmps19
  go_wp2
  go_loop [1, 2, 3] (fun b _ i => ∃ k : Nat, k ≤ 8192 ∧ i = .int .i64 k ∧ b = .int .i64 (miTo k : Nat)) (fun _ _ i => 8192 - (intOf i).toNat)
  case atStart => exact ⟨0, Nat.zero_le _, rfl, rfl⟩
  case round =>
    obtain ⟨k, hk, rfl, rfl⟩ := hrel
    have hb := miTo_le k
    by_cases hlt : k < 8192
    · have HN := Lib.hid (show miTo (k + 1) = if popN (miTo k) < popN k ∧ apartN k = true then k else miTo k from rfl)
      obtain ⟨b, hbb⟩ : ∃ b, b = miTo k := ⟨_, rfl⟩
      rw [← hbb] at hb HN ⊢
      have O1 := Lib.hid (show ∀ W : World, Calls Try.prog 31 #[.int .u64 (k : Int)] W fun e w' => e = .returned (.int .i64 (popN k : Nat)) ∧ W = w' from fun W => onesC_any k W (by omega))
      have b8 : b ≤ 8191 := by omega
      have O2 := Lib.hid (show ∀ W : World, Calls Try.prog 31 #[.int .u64 (b : Int)] W fun e w' => e = .returned (.int .i64 (popN b : Nat)) ∧ W = w' from fun W => onesC_any b W b8)
      have At := Lib.hid (show ∀ W : World, Calls Try.prog 21 #[.int .i64 (k : Int)] W fun e w' => e = .returned (.bool (apartN k)) ∧ W = w' from fun W => implSparse_yes k W (by omega))
      obtain ⟨pk, hpk⟩ : ∃ pk, pk = popN k := ⟨_, rfl⟩
      obtain ⟨pb, hpb⟩ : ∃ pb, pb = popN b := ⟨_, rfl⟩
      obtain ⟨t, htt⟩ : ∃ t, t = apartN k := ⟨_, rfl⟩
      rw [← hpk] at HN O1
      rw [← hpb] at HN O2
      rw [← htt] at HN At
      have HK := Lib.hid hlt
      have hki : (k : Int) < 8192 := by omega
      have hbi : (b : Int) ≤ 8191 := by omega
      clear hpk hpb htt hbb hk hlt hb b8
      by_cases h1 : pb < pk
      · have h1' : (pb : Int) < (pk : Int) := by omega
        cases t with
        | true =>
          have HE := Lib.hid (HN.out.trans (if_pos ⟨h1, rfl⟩))
          go_wp2_with fail
          refine (O1.out _).mono ?_; rintro e w' ⟨rfl, rfl⟩
          go_wp2_with fail
          refine (O2.out _).mono ?_; rintro e w' ⟨rfl, rfl⟩
          go_wp2_with fail
          refine (At.out _).mono ?_; rintro e w' ⟨rfl, rfl⟩
          go_wp2_with fail
          go_round
          case rel => exact ⟨k + 1, by have := HK.out; omega, by go_num, by rw [HE.out]⟩
          case measure => have := HK.out; simp [intOf]; omega
        | false =>
          have HE := Lib.hid (HN.out.trans (if_neg (by simp)))
          go_wp2_with fail
          refine (O1.out _).mono ?_; rintro e w' ⟨rfl, rfl⟩
          go_wp2_with fail
          refine (O2.out _).mono ?_; rintro e w' ⟨rfl, rfl⟩
          go_wp2_with fail
          refine (At.out _).mono ?_; rintro e w' ⟨rfl, rfl⟩
          go_wp2_with fail
          go_round
          case rel => exact ⟨k + 1, by have := HK.out; omega, by go_num, by rw [HE.out]⟩
          case measure => have := HK.out; simp [intOf]; omega
      · have h1' : ¬ (pb : Int) < (pk : Int) := by omega
        have h1d : decide ((pb : Int) < (pk : Int)) = false := decide_eq_false h1'
        have HE := Lib.hid (HN.out.trans (if_neg (fun h => h1 h.1)))
        go_wp2_with fail
        refine (O1.out _).mono ?_; rintro e w' ⟨rfl, rfl⟩
        go_wp2_with fail
        refine (O2.out _).mono ?_; rintro e w' ⟨rfl, rfl⟩
        go_wp2_with fail
        go_round
        case rel => exact ⟨k + 1, by have := HK.out; omega, by go_num, by rw [HE.out]⟩
        case measure => have := HK.out; simp [intOf]; omega
    · have e : k = 8192 := by omega
      have HR := Lib.hid (show ((miTo k : Nat) : Int) = 83 by rw [e, most_impl]; rfl)
      have hki : (8192 : Int) ≤ (k : Int) := by omega
      obtain ⟨b, hbb⟩ : ∃ b, b = miTo k := ⟨_, rfl⟩
      rw [← hbb] at HR ⊢
      obtain ⟨z, hz⟩ : ∃ z : Int, z = (k : Int) := ⟨_, rfl⟩
      rw [← hz] at hki ⊢
      clear e hk hlt hb hbb hz
      go_wp2_with fail
      go_ret
      exact ⟨ret_int HR.out, rfl⟩
end Go.Proofs.Ytfbflokkjgbabaa
