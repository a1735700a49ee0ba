/- The draws of rows: what comes out is a row of at most 40 numbers in new memory; nothing that was there is changed. Conditions: few draws ahead. -/
import Derived.Test.YtnjnniaiajejeaaReader
namespace Go.Proofs.Ytnjnniaiajejeaa
open Go.RowKit
theorem Own.rs_kept {w w' : World} {R : Nat} {v : Value} {zs : List Int} (h : Own w (R + 1) v zs) (g : w.grownBy w' (some R)) : Own w' (R + 1) v zs := by
  refine h.kept g ?_
  cases e : v.ownBlock with
  | none => exact .inl rfl
  | some k =>
    refine .inr fun hh => ?_
    have := (World.ownsRow.lt h k e).1
    simp only [Option.some.injEq] at hh
    omega
theorem Rs.app {w0 w w' : World} {R m : Nat} {v : Value} {zs : List Int} {o : Obj} (hs : Rs w0 w R m) (ho : Own w (R + 1) v zs) (g : (w.alloc o).grownBy w' v.ownBlock) : Rs w0 w' R m :=
  (hs.alloc o).grown g fun k hk => by have := (World.ownsRow.lt ho k hk).1; omega
theorem Rs.set {w0 w : World} {R m g : Nat} (hs : Rs w0 w R m) (hg : R + 1 ≤ g) (i : Nat) (v : Value) : Rs w0 (w.setCell ⟨g, i, none⟩ v) R m :=
  hs.grown (grown_set i v) fun k hk => by simp only [Option.some.injEq] at hk; omega
/-- How long a slice is. -/
def lenOf : Value → Nat
  | .slice _ n _ => n
  | _ => 0
set_option maxHeartbeats 2000000 in
theorem rowOf_any (w0 w : World) (R m n : Nat) (h : Rs w0 w R m) (hm : m ≤ 1000) (hn : n ≤ 16) :
    Calls Try.prog 30 #[.pointer (some ⟨R, 0, none⟩), .int .i64 (n : Int)] w fun e w' => ∃ (r : Value) (zs : List Int), e = .returned r ∧ Own w' (R + 1) r zs ∧ zs.length ≤ 40 ∧ Rs w0 w' R (m + 60) := by
  have hs0 := h.2.2.2
  go_enter Try.func30, Try.ntmps30
  go_wp2_with fail
  refine (one_any w0 _ R m _ [5, 20, 3, 200, 1000] 5 rfl (by omega) (by omega) ((h.alloc _).alloc _) (by omega) (Own.lits (by simp) (by omega) _ (by unfold maxLen; simp))).mono ?_
  rintro e w1 ⟨most, rfl, hmem, s1, g1⟩
  have o1 : Own w1 (R + 1) (.slice (some ⟨w.heap.size, 0, none⟩) 0 0) [] := ((Own.lit0 w (by omega)).alloc' _).rs_kept g1
  have hmost : 1 ≤ most ∧ most ≤ 1000 := by simp at hmem; omega
  obtain ⟨hm1, hm2⟩ := hmost
  clear hmem g1 h hs0
  go_wp2
  go_loopw [5] (fun u wr => ∃ (zs : List Int), zs.length ≤ n ∧ Own wr (R + 1) u zs ∧ Rs w0 wr R (m + 1 + 2 * zs.length)) (fun u _ => n - lenOf u)
  case atStart => exact ⟨[], by simp, o1, s1⟩
  case round =>
    clear o1 s1
    obtain ⟨zs, hz, o2, s2⟩ := hrel
    obtain ⟨a, c, rfl, -, -, -⟩ := o2.rd
    by_cases hlt : zs.length < n
    · have hmz : ¬ 2 * most + 1 = 0 := by omega
      go_wp2_with fail
      refine (pick_any w0 _ R _ 256 s2 (by omega) (by omega)).mono ?_; rintro e w3 ⟨k1, rfl, p0, p1, s3, g3⟩
      have o3 := o2.rs_kept g3
      clear o2 s2 g3
      go_wp2_with fail
      refine (pick_any w0 _ R _ 256 s3 (by omega) (by omega)).mono ?_; rintro e w4 ⟨k2, rfl, r0, r1, s4, g4⟩
      have o4 := o3.rs_kept g4
      clear o3 s3 g4
      have hs4 := s4.2.2.2
      go_wp2_with (at_builtin; refine wpList_app rfl _ _ rfl (R + 1) (.slice a zs.length c) zs _ rfl o4 rfl (by omega) (by omega) ?_)
      intro v5 w5 o5 g5
      have s5 := s4.app o4 g5
      clear s4 o4 g5
      have hv5 : lenOf v5 = zs.length + 1 := by obtain ⟨a', c', rfl, -, -, -⟩ := o5.rd; simp [lenOf]
      go_wp2
      go_roundw
      case rel => exact ⟨_, by simp; omega, o5, s5.mono (by simp; omega)⟩
      case measure => simp only [lenOf] at hv5; simp [lenOf]; omega
    · go_wp2_with fail
      refine (pick_any w0 _ R _ 12 s2 (by omega) (by omega)).mono ?_; rintro e w3 ⟨k1, rfl, p0, p1, s3, g3⟩
      have o3 := o2.rs_kept g3
      have s3 : Rs w0 w3 R (m + 40) := s3.mono (by omega)
      clear o2 s2 g3
      by_cases hk : k1 = 0
      · subst hk
        go_wp2
        go_loopw [7] (fun i wr => ∃ (j : Nat) (ys : List Int), j ≤ zs.length ∧ i = .int .i64 (j : Int) ∧ ys.length = zs.length ∧ Own wr (R + 1) (.slice a zs.length c) ys ∧ Rs w0 wr R (m + 40)) (fun i _ => zs.length - (intOf i).toNat)
        case atStart => exact ⟨0, zs, Nat.zero_le _, rfl, rfl, o3, s3⟩
        case round =>
          clear o3 s3
          obtain ⟨j, ys, hj, rfl, hy, o5, s5⟩ := hrel
          by_cases hjl : j < zs.length
          · obtain ⟨g, rfl, hg1, hg2, hrow⟩ := o5.cut (by omega)
            have c1 := hrow.get j hjl
            have f1 := hrow.free j
            have HR := Lib.hid hrow
            clear hrow o5
            go_wp2
            go_roundw
            case rel =>
              have hr := HR.out.set j (3 * (j : Int) + 1)
              refine ⟨j + 1, ys.set j (3 * (j : Int) + 1), by omega, by go_num, by simp [hy], ?_, s5.set hg1 _ _⟩
              have := hr.own
              exact this
            case measure => simp [intOf]; omega
          · go_wp2_with fail
            refine (pick_any w0 _ R (m + 40) 40 s5 (by omega) (by omega)).mono ?_; rintro e w6 ⟨q, rfl, q0, q1, s6, g6⟩
            have o6 := o5.rs_kept g6
            clear o5 s5 g6
            by_cases hq0 : q = 0
            · subst hq0
              go_wp2_with fail
              refine (one_any w0 _ R (m + 41) _ [1001, -1001] 2 rfl (by omega) (by omega) (s6.alloc _) (by omega) (Own.lit (by have := s6.2.2.2; omega) _ (by unfold maxLen; simp))).mono ?_
              rintro e w7 ⟨x, rfl, _, s7, g7⟩
              have o7 := (o6.alloc' _).rs_kept g7
              clear o6 s6 g7
              have hs7 := s7.2.2.2
              go_wp2_with (at_builtin; refine wpList_app rfl _ _ rfl (R + 1) (.slice a zs.length c) ys _ rfl o7 rfl (by omega) (by omega) ?_)
              intro v8 w8 o8 g8
              have s8 := s7.app o7 g8
              clear s7 o7 g8
              go_wp2
              go_ret
              exact ⟨_, _, rfl, o8, by simp; omega, s8.mono (by omega)⟩
            by_cases hq1 : q = 1
            · subst hq1
              have hs6 := s6.2.2.2
              have hl17 := Own.lit (w := w6) (lo := R + 1) (by omega) [1, 1, 1, 1, 1, 1, 1, 1, 1, 1, 1, 1, 1, 1, 1, 1, 1] (by unfold maxLen; simp)
              go_wp2_with (at_builtin; refine wpList_cat rfl _ _ rfl (R + 1) (.slice a zs.length c) (.slice (some ⟨w6.heap.size, 0, none⟩) 17 17) ys [1, 1, 1, 1, 1, 1, 1, 1, 1, 1, 1, 1, 1, 1, 1, 1, 1] rfl (o6.alloc' _) rfl hl17.rd (by simp; omega) (by simp; omega) ?_)
              intro v8 w8 o8 g8
              have s8 := s6.app o6 g8
              clear s6 o6 g8 hl17
              go_wp2
              go_ret
              exact ⟨_, _, rfl, o8, by simp; omega, s8.mono (by omega)⟩
            · go_wp2
              go_ret
              exact ⟨_, _, rfl, o6, by omega, s6.mono (by omega)⟩
      · have s5 := s3
        have o5 := o3
        clear s3 o3
        go_wp2_with fail
        refine (pick_any w0 _ R (m + 40) 40 s5 (by omega) (by omega)).mono ?_; rintro e w6 ⟨q, rfl, q0, q1, s6, g6⟩
        have o6 := o5.rs_kept g6
        clear o5 s5 g6
        by_cases hq0 : q = 0
        · subst hq0
          go_wp2_with fail
          refine (one_any w0 _ R (m + 41) _ [1001, -1001] 2 rfl (by omega) (by omega) (s6.alloc _) (by omega) (Own.lit (by have := s6.2.2.2; omega) _ (by unfold maxLen; simp))).mono ?_
          rintro e w7 ⟨x, rfl, _, s7, g7⟩
          have o7 := (o6.alloc' _).rs_kept g7
          clear o6 s6 g7
          have hs7 := s7.2.2.2
          go_wp2_with (at_builtin; refine wpList_app rfl _ _ rfl (R + 1) (.slice a zs.length c) zs _ rfl o7 rfl (by omega) (by omega) ?_)
          intro v8 w8 o8 g8
          have s8 := s7.app o7 g8
          clear s7 o7 g8
          go_wp2
          go_ret
          exact ⟨_, _, rfl, o8, by simp; omega, s8.mono (by omega)⟩
        by_cases hq1 : q = 1
        · subst hq1
          have hs6 := s6.2.2.2
          have hl17 := Own.lit (w := w6) (lo := R + 1) (by omega) [1, 1, 1, 1, 1, 1, 1, 1, 1, 1, 1, 1, 1, 1, 1, 1, 1] (by unfold maxLen; simp)
          go_wp2_with (at_builtin; refine wpList_cat rfl _ _ rfl (R + 1) (.slice a zs.length c) (.slice (some ⟨w6.heap.size, 0, none⟩) 17 17) zs [1, 1, 1, 1, 1, 1, 1, 1, 1, 1, 1, 1, 1, 1, 1, 1, 1] rfl (o6.alloc' _) rfl hl17.rd (by simp; omega) (by simp; omega) ?_)
          intro v8 w8 o8 g8
          have s8 := s6.app o6 g8
          clear s6 o6 g8 hl17
          go_wp2
          go_ret
          exact ⟨_, _, rfl, o8, by simp; omega, s8.mono (by omega)⟩
        · go_wp2
          go_ret
          exact ⟨_, _, rfl, o6, by omega, s6.mono (by omega)⟩
theorem someRow_any (w0 w : World) (R m : Nat) (h : Rs w0 w R m) (hm : m ≤ 900) :
    Calls Try.prog 25 #[.pointer (some ⟨R, 0, none⟩)] w fun e w' => ∃ (r : Value) (zs : List Int), e = .returned r ∧ Own w' (R + 1) r zs ∧ zs.length ≤ 40 ∧ Rs w0 w' R (m + 61) := by
  go_enter Try.func25, Try.ntmps25
  go_wp2_with fail
  refine (one_any w0 _ R m _ [4, 6, 5, 8, 3, 2, 1, 0, 12, 16] 10 rfl (by omega) (by omega) (h.alloc _) (by omega) (Own.lit (by have := h.2.2.2; omega) _ (by unfold maxLen; simp))).mono ?_
  rintro e w1 ⟨x, rfl, hmem, s1, g1⟩
  have hx : 0 ≤ x ∧ x ≤ 16 := by simp at hmem; omega
  obtain ⟨hx0, hx1⟩ := hx
  obtain ⟨n, rfl⟩ := Int.eq_ofNat_of_zero_le hx0
  clear hmem g1 h
  go_wp2_with fail
  refine (rowOf_any w0 _ R (m + 1) n s1 (by omega) (by omega)).mono ?_
  rintro e w2 ⟨r, zs, rfl, ho, hl, s2⟩
  go_wp2
  go_ret
  exact ⟨_, _, rfl, ho, hl, s2.mono (by omega)⟩
theorem drawValidRow_any (w : World) (v : Value) (bs : List Int) (h : Rdb w v bs) :
    Calls Try.prog 16 #[v] w fun e w' => ∃ (r : Value) (zs : List Int), e = .returned r ∧ Own w' w.heap.size r zs ∧ zs.length ≤ 40 ∧ Below w.heap.size w w' := by
  have HN := Lib.hid (newReader_any w v bs h)
  clear h
  go_enter Try.func16, Try.ntmps16
  go_wp2_with fail
  refine HN.out.mono ?_; rintro e w1 ⟨R, rfl, s1⟩
  go_wp2_with fail
  refine (someRow_any w _ R 0 s1 (by omega)).mono ?_
  rintro e w2 ⟨r, zs, rfl, ho, hl, s2⟩
  go_wp2
  go_ret
  exact ⟨_, _, rfl, ho.mono (by have := s2.2.2.1; omega), hl, s2.2.1⟩
theorem drawDivisorSums_any (w : World) (v : Value) (bs : List Int) (h : Rdb w v bs) :
    Calls Try.prog 8 #[v] w fun e w' => ∃ (r : Value) (zs : List Int), e = .returned r ∧ Own w' w.heap.size r zs ∧ zs.length ≤ 40 ∧ Below w.heap.size w w' := by
  have HN := Lib.hid (newReader_any w v bs h)
  clear h
  go_enter Try.func8, Try.ntmps8
  go_wp2_with fail
  refine HN.out.mono ?_; rintro e w1 ⟨R, rfl, s1⟩
  go_wp2_with fail
  refine (someRow_any w _ R 0 s1 (by omega)).mono ?_
  rintro e w2 ⟨r, zs, rfl, ho, hl, s2⟩
  go_wp2
  go_ret
  exact ⟨_, _, rfl, ho.mono (by have := s2.2.2.1; omega), hl, s2.2.1⟩
theorem drawUndivisorSums_any (w : World) (v : Value) (bs : List Int) (h : Rdb w v bs) :
    Calls Try.prog 14 #[v] w fun e w' => ∃ (r : Value) (zs : List Int), e = .returned r ∧ Own w' w.heap.size r zs ∧ zs.length ≤ 40 ∧ Below w.heap.size w w' := by
  have HN := Lib.hid (newReader_any w v bs h)
  clear h
  go_enter Try.func14, Try.ntmps14
  go_wp2_with fail
  refine HN.out.mono ?_; rintro e w1 ⟨R, rfl, s1⟩
  go_wp2_with fail
  refine (someRow_any w _ R 0 s1 (by omega)).mono ?_
  rintro e w2 ⟨r, zs, rfl, ho, hl, s2⟩
  go_wp2
  go_ret
  exact ⟨_, _, rfl, ho.mono (by have := s2.2.2.1; omega), hl, s2.2.1⟩
theorem drawEnergyOf_any (w : World) (v : Value) (bs : List Int) (h : Rdb w v bs) :
    Calls Try.prog 18 #[v] w fun e w' => ∃ (r : Value) (zs : List Int), e = .returned r ∧ Own w' w.heap.size r zs ∧ zs.length ≤ 40 ∧ Below w.heap.size w w' := by
  have HN := Lib.hid (newReader_any w v bs h)
  clear h
  go_enter Try.func18, Try.ntmps18
  go_wp2_with fail
  refine HN.out.mono ?_; rintro e w1 ⟨R, rfl, s1⟩
  go_wp2_with fail
  refine (someRow_any w _ R 0 s1 (by omega)).mono ?_
  rintro e w2 ⟨r, zs, rfl, ho, hl, s2⟩
  go_wp2
  go_ret
  exact ⟨_, _, rfl, ho.mono (by have := s2.2.2.1; omega), hl, s2.2.1⟩
theorem drawDropSmall_any (w : World) (v : Value) (bs : List Int) (h : Rdb w v bs) :
    Calls Try.prog 22 #[v] w fun e w' => ∃ (r : Value) (zs : List Int) (x : Int), e = .returned (.tuple #[r, .int .i64 x]) ∧ Own w' w.heap.size r zs ∧ zs.length ≤ 40 ∧ Below w.heap.size w w' := by
  have HN := Lib.hid (newReader_any w v bs h)
  clear h
  go_enter Try.func22, Try.ntmps22
  go_wp2_with fail
  refine HN.out.mono ?_; rintro e w1 ⟨R, rfl, s1⟩
  go_wp2_with fail
  refine (someRow_any w _ R 0 s1 (by omega)).mono ?_
  rintro e w2 ⟨r, zs, rfl, ho, hl, s2⟩
  go_wp2_with fail
  refine (one_any w _ R _ _ [3, 1, 10, 0, 1000, 1001, -1] 7 rfl (by omega) (by omega) (s2.alloc _) (by omega) (Own.lit (by have := s2.2.2.2; omega) _ (by unfold maxLen; simp))).mono ?_
  rintro e w3 ⟨x, rfl, _, s3, g3⟩
  have o3 := (ho.alloc' _).rs_kept g3
  go_wp2
  go_ret2
  exact ⟨_, _, _, rfl, o3.mono (by have := s3.2.2.1; omega), hl, s3.2.1⟩
end Go.Proofs.Ytnjnniaiajejeaa
