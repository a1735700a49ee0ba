/- The walk of FnChangesIn: for every code the law returns true and nothing that was there is changed. No conditions. -/
import Derived.Test.YtlnjfgmodfkiiaaDraw3
import Derived.Test.YtlnjfgmodfkiiaaOrder2
namespace Go.Proofs.Ytlnjfgmodfkiiaa
open Go.RowKit
set_option maxHeartbeats 1000000 in
theorem law_FnChangesIn (w : World) (a : Option Addr) (n c : Nat) (bs : List Int) (h : Rdb w (.slice a n c) bs) :
    Calls Try.prog 7 #[.slice a n c] w fun e w' => e = .returned (.bool true) ∧ Below w.heap.size w w' := by
  have HN := Lib.hid (drawChangesIn_any w _ bs h)
  clear h
  by_cases hn : 1048576 < n
  · clear HN
    go_enter Try.func7, Try.ntmps7
    go_wp2
    go_ret
    exact ⟨rfl, Below.refl _ _⟩
  go_enter Try.func7, Try.ntmps7
  go_wp2_with fail
  refine HN.out.mono ?_; rintro e w1 ⟨x, z, rfl, b1⟩
  clear HN
  have HS := Lib.hid (fun W : World => specChangesIn_any W x z)
  have HI := Lib.hid (fun W : World => implChangesIn_any W x z)
  by_cases hok : okChg x z
  · obtain ⟨h0, h1, h2, h3⟩ := id hok
    obtain ⟨k, rfl⟩ := Int.eq_ofNat_of_zero_le h0
    obtain ⟨y, rfl⟩ := Int.eq_ofNat_of_zero_le h2
    rw [Int.toNat_natCast] at h3
    have hk4 : k ≤ 4 := by omega
    have hyP : y < pw2 k := by omega
    have hR : retChangesIn (k : Int) (y : Int) = (chg k y : Nat) := by rw [retChangesIn, if_pos hok]; rfl
    rw [hR] at HS HI
    have hq := chg_lt k hk4 y hyP
    have HA := Lib.hid (order_at k hk4 y hyP)
    have HL := Lib.hid (oTo_len k (pw2 k))
    have HO := Lib.hid (fun W : World => order_yes k W hk4)
    have p2 := pw2_16 hk4
    obtain ⟨q, hqq⟩ : ∃ q, q = chg k y := ⟨_, rfl⟩
    obtain ⟨P, hP⟩ : ∃ P, P = pw2 k := ⟨_, rfl⟩
    obtain ⟨L, hLL⟩ : ∃ L, L = oTo k (pw2 k) := ⟨_, rfl⟩
    rw [← hqq] at HS HI hq HA
    rw [← hLL] at HA HL HO
    rw [← hP] at HL hq p2
    clear hqq hP hLL hR hok h0 h1 h2 h3 hyP hk4
    go_wp2_with fail
    refine (HI.out _).mono ?_; rintro e w' ⟨rfl, rfl⟩
    go_wp2_with fail
    refine (HS.out _).mono ?_; rintro e w' ⟨rfl, rfl⟩
    go_wp2_with fail
    refine (HO.out _).mono ?_; rintro e w2 ⟨r, rfl, ho, g⟩
    have b2 := b1.grown g b1.size (by simp)
    clear b1 g
    obtain ⟨g, c', rfl, -, -, hrow⟩ := ho.row (by rw [HL.out]; omega)
    rw [HL.out] at hrow ⊢
    have c1 := hrow.get q hq
    rw [HA.out] at c1
    clear ho hrow
    go_wp2_with fail
    go_ret
    exact ⟨ret_bool (by simp), b2⟩
  · have hR : retChangesIn x z = -1 := if_neg hok
    rw [hR] at HS HI
    clear hR hok
    go_wp2_with fail
    refine (HI.out _).mono ?_; rintro e w' ⟨rfl, rfl⟩
    go_wp2_with fail
    refine (HS.out _).mono ?_; rintro e w' ⟨rfl, rfl⟩
    go_wp2_with fail
    refine (HS.out _).mono ?_; rintro e w' ⟨rfl, rfl⟩
    go_wp2_with fail
    go_ret
    exact ⟨rfl, b1⟩
end Go.Proofs.Ytlnjfgmodfkiiaa
