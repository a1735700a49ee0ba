/- equalInts of the laws compares two slices. Conditions: none. -/
import Derived.Test.YtfbflokkjgbabaaBase
namespace Go.Proofs.Ytfbflokkjgbabaa
open Go.RowKit
theorem eqL_ne (a a' : Option Addr) (n n' c c' : Nat) (w : World) (h : n ≠ n') (_h1 : n ≤ maxLen) (_h2 : n' ≤ maxLen) :
    Calls Try.prog 9 #[.slice a n c, .slice a' n' c'] w fun e w' => e = .returned (.bool false) ∧ Quiet w w' := by
  unfold maxLen at _h1 _h2
  go_enter Try.func9, Try.ntmps9
  go_wp2
  go_ret
  exact ⟨rfl, Quiet.refl _⟩
theorem eqL_nil (a a' : Option Addr) (c c' : Nat) (w : World) :
    Calls Try.prog 9 #[.slice a 0 c, .slice a' 0 c'] w fun e w' => e = .returned (.bool true) ∧ Quiet w w' := by
  go_enter Try.func9, Try.ntmps9
  go_wp2
  refine wp_loop_rounds 1 ?_; rw [rounds_succ]; go_wp2
  go_ret
  exact ⟨rfl, Quiet.refl _⟩
set_option maxHeartbeats 400000 in
theorem eqL_some (b o b' o' c c' : Nat) (zs zs' : List Int) (n : Nat) (w : World) (h : zs.length = n) (h' : zs'.length = n) (_h1 : n ≤ maxLen)
    (hc : ∀ i, i < n → w.cell? ⟨b, o + i, none⟩ = some (.int .i64 (zs.getD i 0))) (hc' : ∀ i, i < n → w.cell? ⟨b', o' + i, none⟩ = some (.int .i64 (zs'.getD i 0))) :
    Calls Try.prog 9 #[.slice (some ⟨b, o, none⟩) n c, .slice (some ⟨b', o', none⟩) n c'] w fun e w' => e = .returned (.bool (decide (zs = zs'))) ∧ Quiet w w' := by
  unfold maxLen at _h1
  have HC := Lib.hid hc
  have HC' := Lib.hid hc'
  have HL := Lib.hid h
  have HL' := Lib.hid h'
  clear hc hc' h h'
  go_enter Try.func9, Try.ntmps9
  go_wp2
  go_loopw [5] (fun i wr => ∃ k m : Nat, k ≤ n ∧ i = .int .i64 k ∧ zs.take k = zs'.take k ∧ wr = w.drewN m) (fun i _ => n - (intOf i).toNat)
  case atStart => exact ⟨0, 0, Nat.zero_le _, rfl, rfl, rfl⟩
  case round =>
    obtain ⟨k, m, hk, rfl, ht, rfl⟩ := hrel
    have HT := Lib.hid ht
    clear ht
    by_cases hlt : k < n
    · have e1 := HC.out k hlt
      have e2 := HC'.out k hlt
      by_cases he : zs.getD k 0 = zs'.getD k 0
      · have HE := Lib.hid he
        rw [← he] at e2
        obtain ⟨x, hx⟩ : ∃ x, x = zs.getD k 0 := ⟨_, rfl⟩
        rw [← hx] at e1 e2
        clear he hx
        go_wp2
        go_quiet (fail)
        go_wp2
        go_roundw
        case rel => exact ⟨k + 1, m + nq, by omega, by go_num, take_succ_eq HT.out HE.out (by rw [HL.out]; omega) (by rw [HL'.out]; omega), rfl⟩
        case measure => simp [intOf]; omega
      · obtain ⟨x, hx⟩ : ∃ x, x = zs.getD k 0 := ⟨_, rfl⟩
        obtain ⟨y, hy⟩ : ∃ y, y = zs'.getD k 0 := ⟨_, rfl⟩
        have HN : Hid (zs ≠ zs') := by intro h; subst h; exact he rfl
        rw [← hx] at e1
        rw [← hy] at e2
        have hxy : (x != y) = true := by rw [hx, hy]; simpa using he
        clear he hx hy
        go_wp2
        go_quiet (fail)
        go_wp2
        go_ret
        exact ⟨by simp [HN.out], Quiet.drewN _ _ _⟩
    · go_wp2
      go_ret
      have e : k = n := by omega
      subst e
      have := HT.out
      rw [List.take_of_length_le (by rw [HL.out]; omega), List.take_of_length_le (by rw [HL'.out]; omega)] at this
      exact ⟨by simp [this], m, rfl⟩
theorem eqL_any (w : World) (v v' : Value) (zs zs' : List Int) (h : Rd w v zs) (h' : Rd w v' zs') :
    Calls Try.prog 9 #[v, v'] w fun e w' => e = .returned (.bool (decide (zs = zs'))) ∧ Quiet w w' := by
  obtain ⟨a, c, rfl, h1, h2, h3⟩ := h
  obtain ⟨a', c', rfl, h1', h2', h3'⟩ := h'
  by_cases hl : zs.length = zs'.length
  · by_cases hz : zs = []
    · subst hz
      obtain rfl : zs' = [] := List.eq_nil_of_length_eq_zero (by simpa using hl.symm)
      exact (eqL_nil a a' c c' w).mono fun e w' ⟨he, hw⟩ => ⟨by rw [he]; rfl, hw⟩
    · obtain ⟨b, o, rfl, hc⟩ := h3.resolve_left hz
      have hz' : zs' ≠ [] := by rintro rfl; exact hz (List.eq_nil_of_length_eq_zero (by simpa using hl))
      obtain ⟨b', o', rfl, hc'⟩ := h3'.resolve_left hz'
      rw [← hl] at hc' ⊢
      exact eqL_some b o b' o' c c' zs zs' zs.length w rfl hl.symm (Nat.le_trans h1 h2) hc hc'
  · exact (eqL_ne a a' _ _ c c' w hl (Nat.le_trans h1 h2) (Nat.le_trans h1' h2')).mono fun e w' ⟨he, hw⟩ => ⟨by rw [he, decide_eq_false (fun h => hl (by rw [h]))], hw⟩
end Go.Proofs.Ytfbflokkjgbabaa
