/- The draw of rests: what comes out is a row of at most 40 numbers in new memory; nothing that was there is changed. Conditions: few draws ahead. -/
import Derived.Test.YtlnjfgmodfkiiaaDraw1
namespace Go.Proofs.Ytlnjfgmodfkiiaa
open Go.RowKit
theorem restCount_any (w0 w : World) (R m : Nat) (h : Rs w0 w R m) (hm : m ≤ 900) :
    Calls Try.prog 27 #[.pointer (some ⟨R, 0, none⟩)] w fun e w' => ∃ n : Nat, e = .returned (.int .i64 (n : Int)) ∧ n ≤ 16 ∧ Rs w0 w' R (m + 1) := by
  go_enter Try.func27, Try.ntmps27
  go_wp2_with fail
  refine (one_any w0 _ R m _ [4, 8, 6, 3, 2, 12, 16, 1, 5, 0] 10 rfl (by omega) (by omega) (h.alloc _) (by omega) (Own.lit (by have := h.2.2.2; omega) _ (by unfold maxLen; simp))).mono ?_
  rintro e w1 ⟨x, rfl, hmem, s1, g1⟩
  have hx : 0 ≤ x ∧ x ≤ 16 := by simp at hmem; omega
  obtain ⟨hx0, hx1⟩ := hx
  obtain ⟨n, rfl⟩ := Int.eq_ofNat_of_zero_le hx0
  clear hmem g1 h
  go_wp2
  go_ret
  exact ⟨n, rfl, by omega, s1⟩
set_option maxHeartbeats 2000000 in
theorem someRests_any (w0 w : World) (R m n : Nat) (h : Rs w0 w R m) (hm : m ≤ 1000) (hn : n ≤ 16) :
    Calls Try.prog 26 #[.pointer (some ⟨R, 0, none⟩), .int .i64 (n : Int)] w fun e w' => ∃ (r : Value) (zs : List Int), e = .returned r ∧ Own w' (R + 1) r zs ∧ zs.length ≤ 40 ∧ Rs w0 w' R (m + 60) := by
  have hs0 := h.2.2.2
  go_enter Try.func26, Try.ntmps26
  go_wp2_with fail
  refine (pick_any w0 _ R m 3 (h.alloc _) (by omega) (by omega)).mono ?_; rintro e w1 ⟨t, rfl, t0, t1, s1, g1⟩
  have o1 : Own w1 (R + 1) (.slice (some ⟨w.heap.size, 0, none⟩) 0 0) [] := (Own.lit0 w (by omega)).rs_kept g1
  clear g1 h hs0
  obtain ⟨T, hT⟩ : ∃ T, T = (t == 0) := ⟨_, rfl⟩
  go_wp2
  rw [← hT]
  clear hT t0 t1
  go_loopw [5, 7] (fun u _ wr => ∃ (zs : List Int), zs.length ≤ n ∧ Own wr (R + 1) u zs ∧ Rs w0 wr R (m + 1 + 2 * zs.length)) (fun u _ _ => n - lenOf u)
  case atStart => exact ⟨[], by simp, o1, s1⟩
  case round =>
    clear o1 s1
    obtain ⟨zs, hz, o2, s2⟩ := hrel
    obtain ⟨a, c, rfl, -, -, -⟩ := o2.rd
    by_cases hlt : zs.length < n
    · go_wp2_with fail
      refine (pick_any w0 _ R _ 97 s2 (by omega) (by omega)).mono ?_; rintro e w3 ⟨k1, rfl, p0, p1, s3, g3⟩
      have o3 := o2.rs_kept g3
      clear o2 s2 g3
      cases T with
      | true =>
        go_wp2_with fail
        refine (pick_any w0 _ R _ 3 s3 (by omega) (by omega)).mono ?_; rintro e w4 ⟨k2, rfl, r0, r1, s4, g4⟩
        have o4 := o3.rs_kept g4
        clear o3 s3 g4
        have hs4 := s4.2.2.2
        by_cases hk2 : 0 < k2
        · go_wp2_with (at_builtin; refine wpList_app rfl _ _ rfl (R + 1) (.slice a zs.length c) zs _ rfl o4 rfl (by omega) (by omega) ?_)
          intro v5 w5 o5 g5
          have s5 := s4.app o4 g5
          clear s4 o4 g5
          have hv5 : lenOf v5 = zs.length + 1 := by obtain ⟨a', c', rfl, -, -, -⟩ := o5.rd; simp [lenOf]
          go_wp2
          go_roundw
          case rel => exact ⟨_, by simp; omega, o5, s5.mono (by simp; omega)⟩
          case measure => simp only [lenOf] at hv5; simp [lenOf]; omega
        · go_wp2_with (at_builtin; refine wpList_app rfl _ _ rfl (R + 1) (.slice a zs.length c) zs _ rfl o4 rfl (by omega) (by omega) ?_)
          intro v5 w5 o5 g5
          have s5 := s4.app o4 g5
          clear s4 o4 g5
          have hv5 : lenOf v5 = zs.length + 1 := by obtain ⟨a', c', rfl, -, -, -⟩ := o5.rd; simp [lenOf]
          go_wp2
          go_roundw
          case rel => exact ⟨_, by simp; omega, o5, s5.mono (by simp; omega)⟩
          case measure => simp only [lenOf] at hv5; simp [lenOf]; omega
      | false =>
        have s4 := s3
        have o4 := o3
        clear o3 s3
        have hs4 := s4.2.2.2
        go_wp2_with (at_builtin; refine wpList_app rfl _ _ rfl (R + 1) (.slice a zs.length c) zs _ rfl o4 rfl (by omega) (by omega) ?_)
        intro v5 w5 o5 g5
        have s5 := s4.app o4 g5
        clear s4 o4 g5
        have hv5 : lenOf v5 = zs.length + 1 := by obtain ⟨a', c', rfl, -, -, -⟩ := o5.rd; simp [lenOf]
        go_wp2
        go_roundw
        case rel => exact ⟨_, by simp; omega, o5, s5.mono (by simp; omega)⟩
        case measure => simp only [lenOf] at hv5; simp [lenOf]; omega
    · have s3 : Rs w0 wr R (m + 40) := s2.mono (by omega)
      clear s2
      by_cases hz0 : zs.length = 0
      · have z1 : ¬ 0 < zs.length := by omega
        obtain ⟨L, hL⟩ : ∃ L, L = zs.length := ⟨_, rfl⟩
        have o3 := o2
        rw [← hL] at o2 hz0 z1 hlt ⊢
        obtain rfl := hz0
        go_wp2
        go_ret
        exact ⟨_, _, rfl, o2, by omega, s3.mono (by omega)⟩
      · obtain ⟨g, rfl, hg1, hg2, hrow⟩ := o2.cut (by omega)
        obtain ⟨L, hL⟩ : ∃ L, L = zs.length := ⟨_, rfl⟩
        rw [← hL] at o2 hz0 hlt hrow hz ⊢
        have hL' := Lib.hid hL
        clear hL
        have z2 : (0 : Int) < (L : Int) := by omega
        have z3 : 0 < L := by omega
        go_wp2_with fail
        refine (pick_any w0 _ R _ 30 s3 (by omega) (by omega)).mono ?_; rintro e w4 ⟨k2, rfl, r0, r1, s4, g4⟩
        have o4 := o2.rs_kept g4
        have hrow4 := hrow.kept g4 (by simp; omega)
        clear o2 s3 g4 hrow
        by_cases hk : k2 = 0
        · subst hk
          go_wp2_with fail
          refine (one_any w0 _ R _ _ [97, -1] 2 rfl (by omega) (by omega) (s4.alloc _) (by omega) (Own.lit (by have := s4.2.2.2; omega) _ (by unfold maxLen; simp))).mono ?_
          rintro e w5 ⟨x, rfl, _, s5, g5⟩
          have hrow5 := (hrow4.alloc _).kept g5 (by simp; omega)
          clear hrow4 o4 s4 g5
          have c1 := hrow5.get 0 (by omega)
          have f1 := hrow5.free 0
          have HR := Lib.hid hrow5
          clear hrow5
          go_wp2
          go_ret
          have hr := (HR.out.set 0 x).own
          exact ⟨_, _, rfl, hr, by rw [List.length_set, ← hL'.out]; omega, (s5.set hg1 _ _).mono (by omega)⟩
        · go_wp2
          go_ret
          exact ⟨_, _, rfl, o4, by rw [← hL'.out]; omega, s4.mono (by omega)⟩
theorem drawValidRests_any (w : World) (v : Value) (bs : List Int) (h : Rdb w v bs) :
    Calls Try.prog 8 #[v] w fun e w' => ∃ (r : Value) (zs : List Int), e = .returned r ∧ Own w' w.heap.size r zs ∧ zs.length ≤ 40 ∧ Below w.heap.size w w' := by
  have HN := Lib.hid (newReader_any w v bs h)
  clear h
  go_enter Try.func8, Try.ntmps8
  go_wp2_with fail
  refine HN.out.mono ?_; rintro e w1 ⟨R, rfl, s1⟩
  go_wp2_with fail
  refine (restCount_any w _ R 0 s1 (by omega)).mono ?_
  rintro e w2 ⟨n, rfl, hn, s2⟩
  go_wp2_with fail
  refine (someRests_any w _ R 1 n s2 (by omega) hn).mono ?_
  rintro e w3 ⟨r, zs, rfl, ho, hl, s3⟩
  go_wp2
  go_ret
  exact ⟨_, _, rfl, ho.mono (by have := s3.2.2.1; omega), hl, s3.2.1⟩
end Go.Proofs.Ytlnjfgmodfkiiaa
