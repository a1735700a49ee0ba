/- The walk of FnMostSparse: for every code the law returns true and nothing is changed. No conditions. -/
import Derived.Test.YtfbflokkjgbabaaMost6w
import Derived.Test.YtfbflokkjgbabaaReader
namespace Go.Proofs.Ytfbflokkjgbabaa
open Go.RowKit
theorem more_not : ∀ k, k < 13 → 83 &&& pw2 k = 0 → apartN (83 ||| pw2 k) = false := by decide +kernel
theorem most_is : apartN 83 = true := by decide +kernel
theorem or_83 : ∀ k, k < 13 → 83 ||| pw2 k ≤ 8191 := by decide +kernel
set_option maxHeartbeats 1000000 in
theorem law_FnMostSparse (w : World) (a : Option Addr) (n c : Nat) (bs : List Int) (h : Rdb w (.slice a n c) bs) :
    Calls Try.prog 6 #[.slice a n c] w fun e w' => e = .returned (.bool true) ∧ Below w.heap.size w w' := by
  have _hn : n ≤ maxLen := by obtain ⟨_, _, e, h1, h2, _⟩ := h; simp only [Value.slice.injEq] at e; omega
  unfold maxLen at _hn
  clear h
  by_cases hn : 1048576 < n
  · go_enter Try.func6, Try.ntmps6
    go_wp2
    go_ret
    exact ⟨rfl, Below.refl _ _⟩
  go_enter Try.func6, Try.ntmps6
  go_wp2_with fail
  refine (implMost_any _).mono ?_; rintro e w' ⟨rfl, rfl⟩
  go_wp2_with fail
  refine (specMost_any _).mono ?_; rintro e w' ⟨rfl, rfl⟩
  go_wp2_with fail
  have HMI := Lib.hid (show ∀ W : World, Calls Try.prog 21 #[.int .i64 83] W fun e w' => e = .returned (.bool true) ∧ W = w' from fun W => most_is ▸ implSparse_yes 83 W (by omega))
  go_loop [4] (fun x => ∃ k : Nat, k ≤ 13 ∧ x = .int .i64 (pw2 k : Nat)) (fun x => 8192 - (intOf x).toNat)
  case atStart => exact ⟨0, Nat.zero_le _, rfl⟩
  case round =>
    obtain ⟨k, hk, rfl⟩ := hrel
    by_cases hlt : k < 13
    · have hp : pw2 k ≤ 4096 := Nat.le_trans (pw2_mono (show k ≤ 12 by omega)) (by decide)
      have hp1 := pw2_pos k
      have e1 := and20 83 (pw2 k) (by omega) (by omega)
      have e2 := or20 83 (pw2 k) (by omega) (by omega)
      have HT := Lib.hid (more_not k hlt)
      have ho := or_83 k hlt
      have Bx := Lib.hid (show ∀ W : World, Calls Try.prog 21 #[.int .i64 ((83 ||| pw2 k : Nat) : Int)] W fun e w' => e = .returned (.bool (apartN (83 ||| pw2 k))) ∧ W = w' from fun W => implSparse_yes _ W ho)
      have HN := Lib.hid (show pw2 (k + 1) = 2 * pw2 k from rfl)
      have HK := Lib.hid hlt
      obtain ⟨u, hu⟩ : ∃ u, u = 83 &&& pw2 k := ⟨_, rfl⟩
      obtain ⟨v, hv⟩ : ∃ v, v = 83 ||| pw2 k := ⟨_, rfl⟩
      rw [← hu] at e1 HT
      rw [← hv] at e2 HT Bx
      obtain ⟨q, hq⟩ : ∃ q, q = pw2 k := ⟨_, rfl⟩
      rw [← hq] at hp hp1 e1 e2 HN ⊢
      have HQ := Lib.hid (And.intro hp hp1)
      have hpi : (q : Int) ≤ 4096 := by omega
      have hpi1 : (1 : Int) ≤ (q : Int) := by omega
      rw [show ((83 : Nat) : Int) = 83 from rfl] at e1 e2
      clear hu hv hq ho hk hlt hp hp1
      by_cases h0 : u = 0
      · have ht := HT.out h0
        rw [ht] at Bx
        have z1 : ((u : Int) == 0) = true := by rw [beq_iff_eq]; omega
        have hu0 : (u : Int) = 0 := by omega
        rw [hu0] at e1
        clear ht HT h0 z1 hu0
        go_wp2_with fail
        refine (Bx.out _).mono ?_; rintro e w' ⟨rfl, rfl⟩
        clear e1 e2
        go_wp2_with fail
        go_round
        case rel => exact ⟨k + 1, by have := HK.out; omega, by rw [HN.out]; go_num⟩
        case measure => have := HQ.out; simp [intOf]; omega
      · have z1 : ((u : Int) == 0) = false := by rw [beq_eq_false_iff_ne]; omega
        clear HT h0
        go_wp2_with fail
        clear e1 e2
        go_round
        case rel => exact ⟨k + 1, by have := HK.out; omega, by rw [HN.out]; go_num⟩
        case measure => have := HQ.out; simp [intOf]; omega
    · have e : k = 13 := by omega
      subst e
      have h8 : ((pw2 13 : Nat) : Int) = 8192 := by decide
      rw [h8]
      clear h8 hlt hk
      go_wp2_with fail
      refine (HMI.out _).mono ?_; rintro e w' ⟨rfl, rfl⟩
      go_wp2_with fail
      go_ret
      exact ⟨rfl, Below.refl _ _⟩
end Go.Proofs.Ytfbflokkjgbabaa
