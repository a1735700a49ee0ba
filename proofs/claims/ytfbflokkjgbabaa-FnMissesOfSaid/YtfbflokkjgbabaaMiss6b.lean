/- MissesOf: the reference and the program return the same counts, for all arguments. Conditions: at most 1048576 bytes each. -/
import Derived.Test.YtfbflokkjgbabaaMiss6
namespace Go.Proofs.Ytfbflokkjgbabaa
open Go.RowKit
set_option maxHeartbeats 1000000 in
theorem implMisses_yes (s p : ByteArray) (w : World) (hok : okM2 s p = true) :
    Calls Try.prog 17 #[.string s, .string p] w fun e w' => ∃ r, e = .returned r ∧ Own w' w.heap.size r (resMissesOf s p) ∧ Below w.heap.size w w' := by
  have HR := Lib.hid (show resMissesOf s p = tab (s.size + 1 - p.size) (msF s p) by rw [resMissesOf, if_pos hok])
  obtain ⟨l1, l2, l3⟩ := okM2_len hok
  have V1 := Lib.hid (show ∀ W, Calls Try.prog 29 #[.string s, .string p] W fun e w' => e = .returned (.bool true) ∧ W = w' from fun W => (textsOk_any s p W (by omega) (by omega)).mono fun _ _ ⟨h1, h2⟩ => ⟨by rw [h1, hok], h2⟩)
  have HG := Lib.hid (fun (s : ByteArray) k (h : k < s.size) => bt_get h)
  clear hok
  go_enter Try.func17, Try.ntmps17
  go_wp2_with fail
  refine (V1.out _).mono ?_; rintro e w' ⟨rfl, rfl⟩
  go_wp2_with fail
  clear V1
  go_loopw [5, 6, 7, 8, 25] (fun u i _ _ _ wr => ∃ k : Nat, k ≤ s.size + 1 - p.size ∧ i = .int .i64 k ∧ Own wr w.heap.size u (tab k (msF s p)) ∧ Below w.heap.size w wr) (fun _ i _ _ _ _ => s.size + 1 - (intOf i).toNat)
  case atStart => exact ⟨0, Nat.zero_le _, rfl, Own.lit0 w (Nat.le_refl _), (Below.refl _ _).alloc (Nat.le_refl _) _⟩
  case round =>
    obtain ⟨i, hi, rfl, hown, hbel⟩ := hrel
    have hz := hbel.size
    by_cases hlt : i + p.size ≤ s.size
    · have g0 : (i : Int) + (p.size : Int) ≤ (s.size : Int) := by omega
      go_wp2
      go_loopw [7, 25] (fun c j wr2 => ∃ k : Nat, k ≤ p.size ∧ j = .int .i64 k ∧ c = .int .i64 (msTo s p i k : Nat) ∧ Quiet wr wr2) (fun _ j _ => p.size - (intOf j).toNat)
      case atStart => exact ⟨0, Nat.zero_le _, rfl, rfl, Quiet.refl _⟩
      case round =>
        obtain ⟨k, hk, rfl, rfl, hq⟩ := hrel
        have hcl := msTo_le s p i k
        have HN := Lib.hid (show msTo s p i (k + 1) = msTo s p i k + if bt p k ≠ 63 ∧ bt p k ≠ bt s (i + k) then 1 else 0 from rfl)
        obtain ⟨cc, hcc⟩ : ∃ cc, cc = msTo s p i k := ⟨_, rfl⟩
        rw [← hcc] at hcl HN ⊢
        have HCC := Lib.hid hcc.symm
        clear hcc
        by_cases hltk : k < p.size
        · have b1 := HG.out p k hltk
          have b2 := HG.out s (i + k) (by omega)
          obtain ⟨x, hx⟩ : ∃ x, x = bt p k := ⟨_, rfl⟩
          obtain ⟨y, hy⟩ : ∃ y, y = bt s (i + k) := ⟨_, rfl⟩
          rw [← hx] at b1 HN
          rw [← hy] at b2 HN
          clear hx hy
          have s1 : (k : Int) < (p.size : Int) := by omega
          have s2 : (i : Int) + (k : Int) < (s.size : Int) := by omega
          have s3 : ((i : Int) + (k : Int)).toNat = i + k := by omega
          have s4 : (0 : Int) ≤ (i : Int) + (k : Int) := by omega
          by_cases h63 : x = 63
          · have g3 : ((x : Int) != 63) = false := by rw [h63]; rfl
            have HE := Lib.hid (show msTo s p i (k + 1) = cc by rw [HN.out, if_neg (by omega)]; rfl)
            clear h63 HN
            go_wp2
            go_quiet (fail)
            go_wp2
            go_roundw
            case rel => exact ⟨k + 1, by omega, by go_num, by rw [HE.out], hq.more nq⟩
            case measure => simp [intOf]; omega
          · have g3 : ((x : Int) != 63) = true := by rw [bne_iff_ne]; omega
            by_cases hxy : x = y
            · have g4 : ((x : Int) != (y : Int)) = false := by rw [hxy]; simp
              have HE := Lib.hid (show msTo s p i (k + 1) = cc by rw [HN.out, if_neg (by omega)]; rfl)
              clear h63 HN hxy
              go_wp2
              go_quiet (fail)
              go_wp2
              go_roundw
              case rel => exact ⟨k + 1, by omega, by go_num, by rw [HE.out], hq.more nq⟩
              case measure => simp [intOf]; omega
            · have g4 : ((x : Int) != (y : Int)) = true := by rw [bne_iff_ne]; omega
              have HE := Lib.hid (show msTo s p i (k + 1) = cc + 1 by rw [HN.out, if_pos ⟨h63, hxy⟩])
              clear h63 HN hxy
              go_wp2
              go_quiet (fail)
              go_wp2
              go_roundw
              case rel => exact ⟨k + 1, by omega, by go_num, by rw [HE.out]; go_num, hq.more nq⟩
              case measure => simp [intOf]; omega
        · have e : k = p.size := by omega
          have HF := Lib.hid (show tab (i + 1) (msF s p) = tab i (msF s p) ++ [(cc : Int)] by rw [tab_snoc, msF, ← e, HCC.out])
          have hown := hown.keep hq.grown
          have hbel := Quiet.below hbel hq
          have hz := hbel.size
          have hL : (tab i (msF s p)).length ≤ 1048576 := by rw [tab_len]; omega
          have hki : (p.size : Int) ≤ (k : Int) := by omega
          clear e hq
          go_wp2_with (at_builtin; refine wpList_app rfl _ _ rfl w.heap.size u5 (tab i (msF s p)) (cc : Int) rfl hown rfl hL (by omega) ?_)
          intro v' w1 hown' hg
          have hbel' := below_app hbel hown hz hg
          clear hg hown hbel
          go_wp2
          go_roundw
          case rel => exact ⟨i + 1, by omega, by go_num, by rw [HF.out]; exact hown', hbel'⟩
          case measure => simp [intOf]; omega
    · have e : i = s.size + 1 - p.size := by omega
      have g0 : ¬ (i : Int) + (p.size : Int) ≤ (s.size : Int) := by omega
      have HE := Lib.hid e
      clear e
      go_wp2
      go_ret
      exact ret_own hown (by rw [HR.out, HE.out]) hbel
theorem implMissesOf_any (w : World) (s p : ByteArray) (hs : s.size ≤ 1048576) (hp : p.size ≤ 1048576) :
    Calls Try.prog 17 #[.string s, .string p] w fun e w' => ∃ r, e = .returned r ∧ Own w' w.heap.size r (resMissesOf s p) ∧ Below w.heap.size w w' := by
  by_cases hok : okM2 s p = true
  · exact implMisses_yes s p w hok
  · have hf : okM2 s p = false := by simpa using hok
    have V1 := Lib.hid (show ∀ W, Calls Try.prog 29 #[.string s, .string p] W fun e w' => e = .returned (.bool false) ∧ W = w' from fun W => (textsOk_any s p W hs hp).mono fun _ _ ⟨h1, h2⟩ => ⟨by rw [h1, hf], h2⟩)
    have HR := Lib.hid (show resMissesOf s p = [] by rw [resMissesOf, if_neg hok])
    clear hok hf
    go_enter Try.func17, Try.ntmps17
    go_wp2_with fail
    refine (V1.out _).mono ?_; rintro e w' ⟨rfl, rfl⟩
    go_wp2_with fail
    go_ret
    exact ret_own (Own.nil _ _) HR.out (Below.refl _ _)
theorem specMissesOf_any (w : World) (s p : ByteArray) (hs : s.size ≤ 1048576) (hp : p.size ≤ 1048576) :
    Calls Try.prog 18 #[.string s, .string p] w fun e w' => ∃ r, e = .returned r ∧ Own w' w.heap.size r (resMissesOf s p) ∧ Below w.heap.size w w' := by
  by_cases hok : okM2 s p = true
  · exact specMisses_yes s p w hok
  · have HR := Lib.hid (show resMissesOf s p = [] by rw [resMissesOf, if_neg hok])
    by_cases h1 : okT false s = true
    · have V1 := Lib.hid (show ∀ W, Calls Try.prog 30 #[.string s, .bool false] W fun e w' => e = .returned (.bool true) ∧ W = w' from fun W => (validPattern_any s false W hs).mono fun _ _ ⟨e1, e2⟩ => ⟨by rw [e1, h1], e2⟩)
      by_cases h2 : okT true p = true
      · have V2 := Lib.hid (show ∀ W, Calls Try.prog 30 #[.string p, .bool true] W fun e w' => e = .returned (.bool true) ∧ W = w' from fun W => (validPattern_any p true W hp).mono fun _ _ ⟨e1, e2⟩ => ⟨by rw [e1, h2], e2⟩)
        have hemp : p.toList.isEmpty = true := emp_yes (by
          by_cases h0 : 1 ≤ p.size
          · exact absurd (by rw [okM2, h1, h2, decide_eq_true h0]; rfl) hok
          · omega)
        clear hok h1 h2
        go_enter Try.func18, Try.ntmps18
        go_wp2_with fail
        refine (V1.out _).mono ?_; rintro e w' ⟨rfl, rfl⟩
        go_wp2_with fail
        refine (V2.out _).mono ?_; rintro e w' ⟨rfl, rfl⟩
        go_wp2_with fail
        go_ret
        exact ret_own (Own.nil _ _) HR.out (Below.refl _ _)
      · have h2' : okT true p = false := by simpa using h2
        have V2 := Lib.hid (show ∀ W, Calls Try.prog 30 #[.string p, .bool true] W fun e w' => e = .returned (.bool false) ∧ W = w' from fun W => (validPattern_any p true W hp).mono fun _ _ ⟨e1, e2⟩ => ⟨by rw [e1, h2'], e2⟩)
        clear hok h1 h2 h2'
        go_enter Try.func18, Try.ntmps18
        go_wp2_with fail
        refine (V1.out _).mono ?_; rintro e w' ⟨rfl, rfl⟩
        go_wp2_with fail
        refine (V2.out _).mono ?_; rintro e w' ⟨rfl, rfl⟩
        go_wp2_with fail
        go_ret
        exact ret_own (Own.nil _ _) HR.out (Below.refl _ _)
    · have h1' : okT false s = false := by simpa using h1
      have V1 := Lib.hid (show ∀ W, Calls Try.prog 30 #[.string s, .bool false] W fun e w' => e = .returned (.bool false) ∧ W = w' from fun W => (validPattern_any s false W hs).mono fun _ _ ⟨e1, e2⟩ => ⟨by rw [e1, h1'], e2⟩)
      clear hok h1 h1'
      go_enter Try.func18, Try.ntmps18
      go_wp2_with fail
      refine (V1.out _).mono ?_; rintro e w' ⟨rfl, rfl⟩
      go_wp2_with fail
      go_ret
      exact ret_own (Own.nil _ _) HR.out (Below.refl _ _)
end Go.Proofs.Ytfbflokkjgbabaa
