/- The draws of numbers: what comes out is a number; nothing that was there is changed. Conditions: none. -/
import Derived.Test.YtlnjfgmodfkiiaaReader
namespace Go.Proofs.Ytlnjfgmodfkiiaa
open Go.RowKit
theorem drawOrderBy_any (w : World) (v : Value) (bs : List Int) (h : Rdb w v bs) :
    Calls Try.prog 11 #[v] w fun e w' => ∃ x : Int, e = .returned (.int .i64 x) ∧ Below w.heap.size w w' := by
  have HN := Lib.hid (newReader_any w v bs h)
  clear h
  go_enter Try.func11, Try.ntmps11
  go_wp2_with fail
  refine HN.out.mono ?_; rintro e w1 ⟨R, rfl, s1⟩
  go_wp2_with fail
  refine (pick_any w _ R 0 _ s1 (by omega) (by omega)).mono ?_; rintro e w2 ⟨k, rfl, _, _, s2, -⟩
  clear s1
  go_wp2_with fail
  refine (pick_any w _ R 1 _ s2 (by omega) (by omega)).mono ?_; rintro e w3 ⟨l, rfl, _, _, s3, -⟩
  clear s2
  go_wp2_with fail
  refine (one_any w _ R 2 _ [1 + k, 1 + l, 1, 96, 97, 0] 6 rfl (by omega) (by omega) (s3.alloc _) (by omega) (Own.lit (by have := s3.2.2.2; omega) _ (by unfold maxLen; simp))).mono ?_
  rintro e w4 ⟨x, rfl, _, s4, -⟩
  clear s3
  go_wp2_with fail
  go_ret
  exact ⟨_, rfl, s4.2.1⟩
theorem drawRootOf_any (w : World) (v : Value) (bs : List Int) (h : Rdb w v bs) :
    Calls Try.prog 15 #[v] w fun e w' => ∃ x : Int, e = .returned (.int .i64 x) ∧ Below w.heap.size w w' := by
  have HN := Lib.hid (newReader_any w v bs h)
  clear h
  go_enter Try.func15, Try.ntmps15
  go_wp2_with fail
  refine HN.out.mono ?_; rintro e w1 ⟨R, rfl, s1⟩
  go_wp2_with fail
  refine (one_any w _ R 0 _ [8, 16, 4, 2, 1, 3, 6, 12, 32, 48, 96, 5, 0] 13 rfl (by omega) (by omega) (s1.alloc _) (by omega) (Own.lit (by have := s1.2.2.2; omega) _ (by unfold maxLen; simp))).mono ?_
  rintro e w4 ⟨x, rfl, _, s4, -⟩
  clear s1
  go_wp2_with fail
  go_ret
  exact ⟨_, rfl, s4.2.1⟩
theorem drawSquareSum_any (w : World) (v : Value) (bs : List Int) (h : Rdb w v bs) :
    Calls Try.prog 18 #[v] w fun e w' => ∃ x : Int, e = .returned (.int .i64 x) ∧ Below w.heap.size w w' := by
  have HN := Lib.hid (newReader_any w v bs h)
  clear h
  go_enter Try.func18, Try.ntmps18
  go_wp2_with fail
  refine HN.out.mono ?_; rintro e w1 ⟨R, rfl, s1⟩
  go_wp2_with fail
  refine (pick_any w _ R 0 _ s1 (by omega) (by omega)).mono ?_; rintro e w2 ⟨k, rfl, _, _, s2, -⟩
  clear s1
  go_wp2_with fail
  refine (pick_any w _ R 1 _ s2 (by omega) (by omega)).mono ?_; rintro e w3 ⟨l, rfl, _, _, s3, -⟩
  clear s2
  go_wp2_with fail
  refine (one_any w _ R 2 _ [k, l, 1, 15, 16, -1] 6 rfl (by omega) (by omega) (s3.alloc _) (by omega) (Own.lit (by have := s3.2.2.2; omega) _ (by unfold maxLen; simp))).mono ?_
  rintro e w4 ⟨x, rfl, _, s4, -⟩
  clear s3
  go_wp2_with fail
  go_ret
  exact ⟨_, rfl, s4.2.1⟩
theorem drawChangesIn_any (w : World) (v : Value) (bs : List Int) (h : Rdb w v bs) :
    Calls Try.prog 21 #[v] w fun e w' => ∃ x y : Int, e = .returned (.tuple #[.int .i64 x, .int .i64 y]) ∧ Below w.heap.size w w' := by
  have HN := Lib.hid (newReader_any w v bs h)
  clear h
  go_enter Try.func21, Try.ntmps21
  go_wp2_with fail
  refine HN.out.mono ?_; rintro e w1 ⟨R, rfl, s1⟩
  go_wp2_with fail
  refine (one_any w _ R 0 _ [3, 4, 2, 1, 0, 5, -1] 7 rfl (by omega) (by omega) (s1.alloc _) (by omega) (Own.lit (by have := s1.2.2.2; omega) _ (by unfold maxLen; simp))).mono ?_
  rintro e w2 ⟨x, rfl, _, s2, -⟩
  clear s1
  go_wp2_with fail
  refine (pick_any w _ R 1 _ s2 (by omega) (by omega)).mono ?_; rintro e w3 ⟨k, rfl, _, _, s3, -⟩
  clear s2
  go_wp2_with fail
  refine (pick_any w _ R 2 _ s3 (by omega) (by omega)).mono ?_; rintro e w4 ⟨l, rfl, _, _, s4, -⟩
  clear s3
  go_wp2_with fail
  refine (pick_any w _ R 3 _ s4 (by omega) (by omega)).mono ?_; rintro e w5 ⟨j, rfl, _, _, s5, -⟩
  clear s4
  go_wp2_with fail
  refine (one_any w _ R 4 _ [k, l, j, 0, 16, -1] 6 rfl (by omega) (by omega) (s5.alloc _) (by omega) (Own.lit (by have := s5.2.2.2; omega) _ (by unfold maxLen; simp))).mono ?_
  rintro e w6 ⟨y, rfl, _, s6, -⟩
  clear s5
  go_wp2_with fail
  go_ret2
  exact ⟨_, _, rfl, s6.2.1⟩
end Go.Proofs.Ytlnjfgmodfkiiaa
