/- The walk of FnValidRests: for every code the law returns true and nothing that was there is changed. No conditions. -/
import Derived.Test.YtlnjfgmodfkiiaaDraw3r
import Derived.Test.YtlnjfgmodfkiiaaRow3
namespace Go.Proofs.Ytlnjfgmodfkiiaa
open Go.RowKit
theorem vrests_len {zs : List Int} (h : vrests zs = true) : 1 ≤ zs.length ∧ zs.length ≤ 96 ∧ 96 % zs.length = 0 := by
  simp only [vrests, Bool.and_eq_true, decide_eq_true_eq] at h; exact h.1
theorem vrests_rep {zs : List Int} (h : vrests zs = true) : vrests (List.replicate zs.length 0) = true := by
  have hl := vrests_len h
  simp only [vrests, Bool.and_eq_true, decide_eq_true_eq, List.length_replicate]
  refine ⟨hl, allB_iff.2 fun z hz => ?_⟩
  obtain rfl := (List.mem_replicate.1 hz).2
  exact ⟨by decide, by decide⟩
set_option maxHeartbeats 1000000 in
theorem law_FnValidRests (w : World) (a : Option Addr) (n c : Nat) (bs : List Int) (h : Rdb w (.slice a n c) bs) :
    Calls Try.prog 3 #[.slice a n c] w fun e w' => e = .returned (.bool true) ∧ Below w.heap.size w w' := by
  have HN := Lib.hid (drawValidRests_any w _ bs h)
  clear h
  by_cases hn : 1048576 < n
  · clear HN
    go_enter Try.func3, Try.ntmps3
    go_wp2
    go_ret
    exact ⟨rfl, Below.refl _ _⟩
  go_enter Try.func3, Try.ntmps3
  go_wp2_with fail
  refine HN.out.mono ?_; rintro e w1 ⟨r, zs, rfl, ho, hl, b1⟩
  clear HN
  have hrd := ho.rd
  obtain ⟨a1, c1, rfl, q1, q2, -⟩ := ho.rd
  unfold maxLen at q2
  clear ho
  by_cases hv : vrests zs = true
  · have HS := Lib.hid (show Calls Try.prog 10 #[.slice a1 zs.length c1] w1 fun e w' => e = .returned (.bool true) ∧ w1 = w' from hv ▸ specValidRests_any _ _ zs hrd (by omega))
    have HI := Lib.hid (show Calls Try.prog 9 #[.slice a1 zs.length c1] w1 fun e w' => e = .returned (.bool true) ∧ w1 = w' from hv ▸ implValidRests_any _ _ zs hrd (by omega))
    have HT := Lib.hid (show ∀ W (lo g : Nat), Row W lo g zs.length zs.length (List.replicate zs.length 0) → Calls Try.prog 9 #[.slice (some ⟨g, 0, none⟩) zs.length zs.length] W fun e w' => e = .returned (.bool true) ∧ W = w' from fun W lo g hr => vrests_rep hv ▸ implValidRests_any W _ _ hr.own.rd (by rw [List.length_replicate]; omega))
    obtain ⟨v1, v2, v3⟩ := vrests_len hv
    have v4 : (96 : Int) % (zs.length : Int) = 0 := by show ((96 % zs.length : Nat) : Int) = 0; rw [v3]; rfl
    clear hv hrd v3
    obtain ⟨m, hm⟩ : ∃ m, m = zs.length := ⟨_, rfl⟩
    rw [← hm] at HS HI HT hl q1 v1 v2 v4 ⊢
    clear hm
    have V4 := Lib.hid v4
    clear v4
    have z1 : ¬ (m : Int) = 0 := by omega
    have z2 : ¬ m = 0 := by omega
    go_wp2_with fail
    refine HI.out.mono ?_; rintro e w' ⟨rfl, rfl⟩
    go_wp2_with fail
    refine HS.out.mono ?_; rintro e w' ⟨rfl, rfl⟩
    go_wp2_with (at_make; refine wpList_mk rfl _ _ rfl m rfl rfl (by omega) ?_)
    intro w2 hrow g
    have b2 := b1.grown g b1.size (by simp)
    go_wp2_with fail
    refine (HT.out _ _ _ hrow).mono ?_; rintro e w' ⟨rfl, rfl⟩
    have v4 := V4.out
    go_wp2_with fail
    go_ret
    exact ⟨ret_bool (by simp), b2⟩
  · have hv' : vrests zs = false := by simpa using hv
    have HS := Lib.hid (show Calls Try.prog 10 #[.slice a1 zs.length c1] w1 fun e w' => e = .returned (.bool false) ∧ w1 = w' from hv' ▸ specValidRests_any _ _ zs hrd (by omega))
    have HI := Lib.hid (show Calls Try.prog 9 #[.slice a1 zs.length c1] w1 fun e w' => e = .returned (.bool false) ∧ w1 = w' from hv' ▸ implValidRests_any _ _ zs hrd (by omega))
    clear hv hv' hrd
    go_wp2_with (first | (go_at_call 9; refine HI.out.mono ?_; rintro e w' ⟨rfl, rfl⟩) | (go_at_call 10; refine HS.out.mono ?_; rintro e w' ⟨rfl, rfl⟩))
    go_ret
    exact ⟨rfl, b1⟩
end Go.Proofs.Ytlnjfgmodfkiiaa
