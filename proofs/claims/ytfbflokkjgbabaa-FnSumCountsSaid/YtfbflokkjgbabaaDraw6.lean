/- The draws of sets: what comes out are numbers; nothing that was there is changed. Conditions: few draws ahead. -/
import Derived.Test.YtfbflokkjgbabaaReader
namespace Go.Proofs.Ytfbflokkjgbabaa
open Go.RowKit
set_option maxHeartbeats 1000000 in
theorem someSet_any (w0 w : World) (R m : Nat) (h : Rs w0 w R m) (hm : m ≤ 900) :
    Calls Try.prog 26 #[.pointer (some ⟨R, 0, none⟩)] w fun e w' => ∃ x : Int, e = .returned (.int .i64 x) ∧ Rs w0 w' R (m + 10) := by
  go_enter Try.func26, Try.ntmps26
  go_wp2_with fail
  refine (pick_any w0 _ R _ 24 h (by omega) (by omega)).mono ?_; rintro e w1 ⟨k1, rfl, a0, a1, s1, -⟩
  clear h
  by_cases hk : k1 = 0
  · subst hk
    go_wp2_with fail
    refine (one_any w0 _ R _ _ [-1, 8192, 0, 8191] 4 rfl (by omega) (by omega) (s1.alloc _) (by omega) (Own.lit (by have := s1.2.2.2; omega) _ (by unfold maxLen; simp))).mono ?_
    rintro e w2 ⟨x, rfl, _, s2, -⟩
    go_wp2
    go_ret
    exact ⟨_, rfl, s2.mono (by omega)⟩
  · go_wp2_with fail
    refine (pick_any w0 _ R _ 256 s1 (by omega) (by omega)).mono ?_; rintro e w2 ⟨k2, rfl, b0, b1, s2, -⟩
    clear s1
    go_wp2_with fail
    refine (pick_any w0 _ R _ 32 s2 (by omega) (by omega)).mono ?_; rintro e w3 ⟨k3, rfl, c0, c1, s3, -⟩
    clear s2
    go_wp2_with fail
    refine (pick_any w0 _ R _ 2 s3 (by omega) (by omega)).mono ?_; rintro e w4 ⟨k4, rfl, d0, d1, s4, -⟩
    clear s3
    by_cases hk4 : k4 = 0
    · subst hk4
      go_wp2_with fail
      refine (pick_any w0 _ R _ 256 s4 (by omega) (by omega)).mono ?_; rintro e w5 ⟨k5, rfl, e0, e1, s5, -⟩
      clear s4
      go_wp2_with fail
      refine (pick_any w0 _ R _ 32 s5 (by omega) (by omega)).mono ?_; rintro e w6 ⟨k6, rfl, f0, f1, s6, -⟩
      clear s5
      go_wp2_with fail
      go_ret
      exact ⟨_, rfl, s6.mono (by omega)⟩
    · go_wp2_with fail
      go_ret
      exact ⟨_, rfl, s4.mono (by omega)⟩
theorem drawSumSet_any (w : World) (v : Value) (bs : List Int) (h : Rdb w v bs) :
    Calls Try.prog 14 #[v] w fun e w' => ∃ x y : Int, e = .returned (.tuple #[.int .i64 x, .int .i64 y]) ∧ Below w.heap.size w w' := by
  have HN := Lib.hid (newReader_any w v bs h)
  clear h
  go_enter Try.func14, Try.ntmps14
  go_wp2_with fail
  refine HN.out.mono ?_; rintro e w1 ⟨R, rfl, s1⟩
  go_wp2_with fail
  refine (someSet_any w _ R 0 s1 (by omega)).mono ?_; rintro e w2 ⟨x, rfl, s2⟩
  go_wp2_with fail
  refine (someSet_any w _ R _ s2 (by omega)).mono ?_; rintro e w3 ⟨y, rfl, s3⟩
  go_wp2_with fail
  go_ret2
  exact ⟨_, _, rfl, s3.2.1⟩
theorem drawSumCounts_any (w : World) (v : Value) (bs : List Int) (h : Rdb w v bs) :
    Calls Try.prog 7 #[v] w fun e w' => ∃ x y : Int, e = .returned (.tuple #[.int .i64 x, .int .i64 y]) ∧ Below w.heap.size w w' := by
  have HN := Lib.hid (drawSumSet_any w v bs h)
  clear h
  go_enter Try.func7, Try.ntmps7
  go_wp2_with fail
  refine HN.out.mono ?_; rintro e w1 ⟨x, y, rfl, b⟩
  go_wp2_with fail
  go_ret2
  exact ⟨_, _, rfl, b⟩
end Go.Proofs.Ytfbflokkjgbabaa
