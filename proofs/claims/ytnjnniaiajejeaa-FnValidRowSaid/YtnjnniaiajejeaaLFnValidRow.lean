/- The walk of FnValidRow: for every code the law returns true and nothing that was there is changed. No conditions. -/
import Derived.Test.YtnjnniaiajejeaaDraw1
import Derived.Test.YtnjnniaiajejeaaCut
import Derived.Test.YtnjnniaiajejeaaRow1
namespace Go.Proofs.Ytnjnniaiajejeaa
open Go.RowKit
theorem vrow_take {zs : List Int} (h : vrow zs = true) (k : Nat) : vrow (zs.take k) = true := by
  have hl := vrow_len h
  simp only [vrow, Bool.and_eq_true, decide_eq_true_eq] at h ⊢
  refine ⟨by rw [List.length_take]; omega, ?_⟩
  rw [allB_iff] at h ⊢
  exact allB_take h.2 k
set_option maxHeartbeats 1000000 in
theorem law_FnValidRow (w : World) (a : Option Addr) (n c : Nat) (bs : List Int) (h : Rdb w (.slice a n c) bs) :
    Calls Try.prog 5 #[.slice a n c] w fun e w' => e = .returned (.bool true) ∧ Below w.heap.size w w' := by
  have HN := Lib.hid (drawValidRow_any w _ bs h)
  clear h
  by_cases hn : 1048576 < n
  · clear HN
    go_enter Try.func5, Try.ntmps5
    go_wp2
    go_ret
    exact ⟨rfl, Below.refl _ _⟩
  go_enter Try.func5, Try.ntmps5
  go_wp2_with fail
  refine HN.out.mono ?_; rintro e w1 ⟨r, zs, rfl, ho, hl, b1⟩
  clear HN
  have hrd := ho.rd
  obtain ⟨a1, c1, rfl, q1, q2, -⟩ := ho.rd
  unfold maxLen at q2
  clear ho
  by_cases hv : vrow zs = true
  · have HS := Lib.hid (show ∀ W, W = w1 → Calls Try.prog 17 #[.slice a1 zs.length c1] W fun e w' => e = .returned (.bool true) ∧ W = w' from by rintro W rfl; exact hv ▸ specValidRow_any _ _ zs hrd (by omega))
    have HI := Lib.hid (show ∀ W, W = w1 → Calls Try.prog 12 #[.slice a1 zs.length c1] W fun e w' => e = .returned (.bool true) ∧ W = w' from by rintro W rfl; exact hv ▸ implValidRow_any _ _ zs hrd (by omega))
    have HT := Lib.hid (show Calls Try.prog 12 #[.slice a1 (zs.length - 1) c1] w1 fun e w' => e = .returned (.bool true) ∧ w1 = w' from vrow_take hv (zs.length - 1) ▸ implValidRow_any _ _ (zs.take (zs.length - 1)) (hrd.take (by omega)) (by rw [List.length_take]; omega))
    clear hv hrd
    obtain ⟨m, hm⟩ : ∃ m, m = zs.length := ⟨_, rfl⟩
    rw [← hm] at HS HI HT hl q1 ⊢
    clear hm
    by_cases hm : m = 0
    · subst hm
      go_wp2_with (first | (go_at_call 12; refine (HI.out _ rfl).mono ?_; rintro e w' ⟨rfl, rfl⟩) | (go_at_call 17; refine (HS.out _ rfl).mono ?_; rintro e w' ⟨rfl, rfl⟩))
      go_ret
      exact ⟨rfl, b1⟩
    · obtain ⟨m, rfl⟩ : ∃ k, m = k + 1 := ⟨m - 1, by omega⟩
      rw [show m + 1 - 1 = m from rfl] at HT
      have z1 : ((m : Int) + 1 == 0) = false := by simp; omega
      clear hm
      go_wp2_with fail
      refine (HI.out _ rfl).mono ?_; rintro e w' ⟨rfl, rfl⟩
      go_wp2_with fail
      refine (HS.out _ rfl).mono ?_; rintro e w' ⟨rfl, rfl⟩
      go_wp2_with fail
      refine HT.out.mono ?_; rintro e w' ⟨rfl, rfl⟩
      go_wp2_with fail
      go_ret
      exact ⟨rfl, b1⟩
  · have hv' : vrow zs = false := by simpa using hv
    have HS := Lib.hid (show ∀ W, W = w1 → Calls Try.prog 17 #[.slice a1 zs.length c1] W fun e w' => e = .returned (.bool false) ∧ W = w' from by rintro W rfl; exact hv' ▸ specValidRow_any _ _ zs hrd (by omega))
    have HI := Lib.hid (show ∀ W, W = w1 → Calls Try.prog 12 #[.slice a1 zs.length c1] W fun e w' => e = .returned (.bool false) ∧ W = w' from by rintro W rfl; exact hv' ▸ implValidRow_any _ _ zs hrd (by omega))
    clear hv hv' hrd
    go_wp2_with (first | (go_at_call 12; refine (HI.out _ rfl).mono ?_; rintro e w' ⟨rfl, rfl⟩) | (go_at_call 17; refine (HS.out _ rfl).mono ?_; rintro e w' ⟨rfl, rfl⟩))
    go_ret
    exact ⟨rfl, b1⟩
end Go.Proofs.Ytnjnniaiajejeaa
