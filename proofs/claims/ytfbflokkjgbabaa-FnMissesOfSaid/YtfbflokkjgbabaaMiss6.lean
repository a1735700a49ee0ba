/- MissesOf: the reference and the program return the same counts. Conditions: at most 1048576 bytes each. -/
import Derived.Test.YtfbflokkjgbabaaMatch6
import Derived.Test.YtfbflokkjgbabaaTab
import Derived.Lib.Strings
namespace Go.Proofs.Ytfbflokkjgbabaa
open Go.RowKit
/-- How many of the first k letters of the pattern are missed from index i on. -/
def msTo (s p : ByteArray) (i : Nat) : Nat → Nat
  | 0 => 0
  | k + 1 => msTo s p i k + if bt p k ≠ 63 ∧ bt p k ≠ bt s (i + k) then 1 else 0
theorem msTo_le (s p : ByteArray) (i k : Nat) : msTo s p i k ≤ k := by
  induction k with
  | zero => exact Nat.le_refl _
  | succ k ih => simp only [msTo]; split <;> omega
def msF (s p : ByteArray) (i : Nat) : Int := (msTo s p i p.size : Nat)
def resMissesOf (s p : ByteArray) : List Int := if okM2 s p = true then tab (s.size + 1 - p.size) (msF s p) else []
theorem okM2_len {s p : ByteArray} (h : okM2 s p = true) : s.size ≤ 20 ∧ 1 ≤ p.size ∧ p.size ≤ 20 := by
  simp only [okM2, okT, Bool.and_eq_true, decide_eq_true_eq] at h
  omega
theorem okM2_parts {s p : ByteArray} (h : okM2 s p = true) : okT false s = true ∧ okT true p = true := by
  simp only [okM2, Bool.and_eq_true] at h
  exact h.1
theorem Quiet.more {w w' : World} (h : Quiet w w') (n : Nat) : Quiet w (w'.drewN n) := by
  obtain ⟨m, rfl⟩ := h; exact Quiet.drewN w m n
theorem resMissesOf_len (s p : ByteArray) : (resMissesOf s p).length ≤ 1048576 := by
  unfold resMissesOf
  split
  · rename_i h; have := okM2_len h; rw [tab_len]; omega
  · simp
theorem emp_no {p : ByteArray} (h : 1 ≤ p.size) : p.toList.isEmpty = false := by
  rw [Lib.toList_data]
  obtain ⟨⟨l⟩⟩ := p
  cases l with
  | nil => exact absurd h (by decide)
  | cons x l => rfl
theorem emp_yes {p : ByteArray} (h : p.size = 0) : p.toList.isEmpty = true := by
  rw [Lib.toList_data]
  obtain ⟨⟨l⟩⟩ := p
  cases l with
  | nil => rfl
  | cons x l => exact absurd h (by simp [ByteArray.size])
set_option maxHeartbeats 1000000 in
theorem specMisses_yes (s p : ByteArray) (w : World) (hok : okM2 s p = true) :
    Calls Try.prog 18 #[.string s, .string p] w fun e w' => ∃ r, e = .returned r ∧ Own w' w.heap.size r (resMissesOf s p) ∧ Below w.heap.size w w' := by
  have HR := Lib.hid (show resMissesOf s p = tab (s.size + 1 - p.size) (msF s p) by rw [resMissesOf, if_pos hok])
  obtain ⟨l1, l2, l3⟩ := okM2_len hok
  obtain ⟨hs, hp⟩ := okM2_parts hok
  have V1 := Lib.hid (show ∀ W, Calls Try.prog 30 #[.string s, .bool false] W fun e w' => e = .returned (.bool true) ∧ W = w' from fun W => (validPattern_any s false W (by omega)).mono fun _ _ ⟨h1, h2⟩ => ⟨by rw [h1, hs], h2⟩)
  have V2 := Lib.hid (show ∀ W, Calls Try.prog 30 #[.string p, .bool true] W fun e w' => e = .returned (.bool true) ∧ W = w' from fun W => (validPattern_any p true W (by omega)).mono fun _ _ ⟨h1, h2⟩ => ⟨by rw [h1, hp], h2⟩)
  have HG := Lib.hid (fun (s : ByteArray) k (h : k < s.size) => bt_get h)
  have hemp := emp_no l2
  clear hs hp hok
  go_enter Try.func18, Try.ntmps18
  go_wp2_with fail
  refine (V1.out _).mono ?_; rintro e w' ⟨rfl, rfl⟩
  go_wp2_with fail
  refine (V2.out _).mono ?_; rintro e w' ⟨rfl, rfl⟩
  go_wp2_with fail
  clear hemp V1 V2
  go_loopw [5, 6, 7, 8] (fun u i _ _ wr => ∃ k : Nat, k ≤ s.size + 1 - p.size ∧ i = .int .i64 k ∧ Own wr w.heap.size u (tab k (msF s p)) ∧ Below w.heap.size w wr) (fun _ i _ _ _ => s.size + 1 - (intOf i).toNat)
  case atStart => exact ⟨0, Nat.zero_le _, rfl, Own.lit0 w (Nat.le_refl _), (Below.refl _ _).alloc (Nat.le_refl _) _⟩
  case round =>
    obtain ⟨i, hi, rfl, hown, hbel⟩ := hrel
    have hz := hbel.size
    by_cases hlt : i + p.size ≤ s.size
    · have g0 : (i : Int) + (p.size : Int) ≤ (s.size : Int) := by omega
      go_wp2
      go_loopw [7, 8] (fun c j wr2 => ∃ k : Nat, k ≤ p.size ∧ j = .int .i64 k ∧ c = .int .i64 (msTo s p i k : Nat) ∧ Quiet wr wr2) (fun _ j _ => p.size - (intOf j).toNat)
      case atStart => exact ⟨0, Nat.zero_le _, rfl, rfl, Quiet.refl _⟩
      case round =>
        obtain ⟨k, hk, rfl, rfl, hq⟩ := hrel
        have hcl := msTo_le s p i k
        have HN := Lib.hid (show msTo s p i (k + 1) = msTo s p i k + if bt p k ≠ 63 ∧ bt p k ≠ bt s (i + k) then 1 else 0 from rfl)
        obtain ⟨cc, hcc⟩ : ∃ cc, cc = msTo s p i k := ⟨_, rfl⟩
        rw [← hcc] at hcl HN ⊢
        have HCC := Lib.hid hcc.symm
        clear hcc
        by_cases hltk : k < p.size
        · have b1 := HG.out p k hltk
          have b2 := HG.out s (i + k) (by omega)
          obtain ⟨x, hx⟩ : ∃ x, x = bt p k := ⟨_, rfl⟩
          obtain ⟨y, hy⟩ : ∃ y, y = bt s (i + k) := ⟨_, rfl⟩
          rw [← hx] at b1 HN
          rw [← hy] at b2 HN
          clear hx hy
          have s1 : (k : Int) < (p.size : Int) := by omega
          have s2 : (i : Int) + (k : Int) < (s.size : Int) := by omega
          have s3 : ((i : Int) + (k : Int)).toNat = i + k := by omega
          have s4 : (0 : Int) ≤ (i : Int) + (k : Int) := by omega
          by_cases h63 : x = 63
          · have g3 : ((x : Int) != 63) = false := by rw [h63]; rfl
            have HE := Lib.hid (show msTo s p i (k + 1) = cc by rw [HN.out, if_neg (by omega)]; rfl)
            clear h63 HN
            go_wp2
            go_quiet (fail)
            go_wp2
            go_roundw
            case rel => exact ⟨k + 1, by omega, by go_num, by rw [HE.out], hq.more nq⟩
            case measure => simp [intOf]; omega
          · have g3 : ((x : Int) != 63) = true := by rw [bne_iff_ne]; omega
            by_cases hxy : x = y
            · have g4 : ((x : Int) != (y : Int)) = false := by rw [hxy]; simp
              have HE := Lib.hid (show msTo s p i (k + 1) = cc by rw [HN.out, if_neg (by omega)]; rfl)
              clear h63 HN hxy
              go_wp2
              go_quiet (fail)
              go_wp2
              go_roundw
              case rel => exact ⟨k + 1, by omega, by go_num, by rw [HE.out], hq.more nq⟩
              case measure => simp [intOf]; omega
            · have g4 : ((x : Int) != (y : Int)) = true := by rw [bne_iff_ne]; omega
              have HE := Lib.hid (show msTo s p i (k + 1) = cc + 1 by rw [HN.out, if_pos ⟨h63, hxy⟩])
              clear h63 HN hxy
              go_wp2
              go_quiet (fail)
              go_wp2
              go_roundw
              case rel => exact ⟨k + 1, by omega, by go_num, by rw [HE.out]; go_num, hq.more nq⟩
              case measure => simp [intOf]; omega
        · have e : k = p.size := by omega
          have HF := Lib.hid (show tab (i + 1) (msF s p) = tab i (msF s p) ++ [(cc : Int)] by rw [tab_snoc, msF, ← e, HCC.out])
          have hown := hown.keep hq.grown
          have hbel := Quiet.below hbel hq
          have hz := hbel.size
          have hL : (tab i (msF s p)).length ≤ 1048576 := by rw [tab_len]; omega
          have hki : (p.size : Int) ≤ (k : Int) := by omega
          clear e hq
          go_wp2_with (at_builtin; refine wpList_app rfl _ _ rfl w.heap.size u5 (tab i (msF s p)) (cc : Int) rfl hown rfl hL (by omega) ?_)
          intro v' w1 hown' hg
          have hbel' := below_app hbel hown hz hg
          clear hg hown hbel
          go_wp2
          go_roundw
          case rel => exact ⟨i + 1, by omega, by go_num, by rw [HF.out]; exact hown', hbel'⟩
          case measure => simp [intOf]; omega
    · have e : i = s.size + 1 - p.size := by omega
      have g0 : ¬ (i : Int) + (p.size : Int) ≤ (s.size : Int) := by omega
      have HE := Lib.hid e
      clear e
      go_wp2
      go_ret
      exact ret_own hown (by rw [HR.out, HE.out]) hbel
end Go.Proofs.Ytfbflokkjgbabaa
