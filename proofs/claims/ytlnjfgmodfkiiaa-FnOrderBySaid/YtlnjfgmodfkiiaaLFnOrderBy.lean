/- The walk of FnOrderBy: for every code the law returns true and nothing that was there is changed. No conditions. -/
import Derived.Test.YtlnjfgmodfkiiaaDraw3
import Derived.Test.YtlnjfgmodfkiiaaNum3
namespace Go.Proofs.Ytlnjfgmodfkiiaa
open Go.RowKit
set_option maxHeartbeats 1000000 in
theorem law_FnOrderBy (w : World) (a : Option Addr) (n c : Nat) (bs : List Int) (h : Rdb w (.slice a n c) bs) :
    Calls Try.prog 4 #[.slice a n c] w fun e w' => e = .returned (.bool true) ∧ Below w.heap.size w w' := by
  have HN := Lib.hid (drawOrderBy_any w _ bs h)
  clear h
  by_cases hn : 1048576 < n
  · clear HN
    go_enter Try.func4, Try.ntmps4
    go_wp2
    go_ret
    exact ⟨rfl, Below.refl _ _⟩
  go_enter Try.func4, Try.ntmps4
  go_wp2_with fail
  refine HN.out.mono ?_; rintro e w1 ⟨x, rfl, b1⟩
  clear HN
  by_cases hx : 1 ≤ x ∧ x ≤ 96
  · obtain ⟨h0, h1⟩ := hx
    obtain ⟨o1, o2, o3, o4, o5⟩ := ord_spec x h0 h1
    have O3 := Lib.hid o3
    have O4 := Lib.hid o4
    have HS := Lib.hid (fun W : World => specOrder_yes x W h0 h1)
    have HI := Lib.hid (fun W : World => implOrder_yes x W h0 h1)
    have o6 : (96 : Int) % (ordN x : Int) = 0 := by show ((96 % ordN x : Nat) : Int) = 0; rw [o5]; rfl
    clear o3 o4 o5
    obtain ⟨N, hN⟩ : ∃ N, N = ordN x := ⟨_, rfl⟩
    rw [← hN] at o1 o2 O3 O4 HS HI o6
    clear hN
    have o7 := Lib.hid o6
    clear o6
    go_wp2_with (first | (go_at_call 12; refine (HI.out _).mono ?_; rintro e w' ⟨rfl, rfl⟩) | (go_at_call 13; refine (HS.out _).mono ?_; rintro e w' ⟨rfl, rfl⟩))
    go_loop [5] (fun i => ∃ k : Nat, 1 ≤ k ∧ k ≤ N ∧ i = .int .i64 k) (fun i => N - (intOf i).toNat)
    case atStart => exact ⟨1, Nat.le_refl _, o1, rfl⟩
    case round =>
      obtain ⟨k, hk1, hk, rfl⟩ := hrel
      by_cases hlt : k < N
      · have hne : (pw x k == 1) = false := by simpa using O4.out k hlt (by omega)
        go_wp2_with (go_at_call 14; refine (raised_any x k _ (by omega) h1 (by omega)).mono ?_; rintro e w' ⟨rfl, rfl⟩)
        go_round
        case rel => exact ⟨k + 1, by omega, by omega, by go_num⟩
        case measure => simp [intOf]; omega
      · have z1 : ¬ (N : Int) = 0 := by omega
        have z2 : ¬ N = 0 := by omega
        have o6 := o7.out
        go_wp2_with (go_at_call 14; refine (raised_any x N _ (by omega) h1 (by omega)).mono ?_; rintro e w' ⟨rfl, rfl⟩)
        go_ret
        exact ⟨ret_bool (by simp [O3.out]), b1⟩
  · have hx' : x < 1 ∨ 96 < x := by omega
    have HX := Lib.hid hx'
    clear hx hx'
    go_wp2_with (first | (go_at_call 12; refine (implOrder_no x _ HX.out).mono ?_; rintro e w' ⟨rfl, rfl⟩) | (go_at_call 13; refine (specOrder_no x _ HX.out).mono ?_; rintro e w' ⟨rfl, rfl⟩))
    go_ret
    exact ⟨rfl, b1⟩
end Go.Proofs.Ytlnjfgmodfkiiaa
