/- OrderOf: the row of all indices by their changes. Conditions: k in 0..4. -/
import Derived.Test.YtlnjfgmodfkiiaaChg6
import Derived.Test.YtlnjfgmodfkiiaaMem
namespace Go.Proofs.Ytlnjfgmodfkiiaa
open Go.RowKit
/-- The changes of index y. -/
def chg (k y : Nat) : Nat := chA y (pw2 k - 1)
/-- The row when the first y indices have been laid. -/
def oTo (k : Nat) : Nat → List Int
  | 0 => List.replicate (pw2 k) 0
  | y + 1 => (oTo k y).set (chg k y) y
theorem oTo_len (k y : Nat) : (oTo k y).length = pw2 k := by
  induction y with
  | zero => simp [oTo]
  | succ y ih => simp [oTo, ih]
theorem chg_lt : ∀ k, k ≤ 4 → ∀ y, y < pw2 k → chg k y < pw2 k := by
  have h : ∀ k, k < 5 → ∀ y, y < pw2 k → chg k y < pw2 k := by decide +kernel
  exact fun k hk => h k (by omega)
theorem order_at : ∀ k, k ≤ 4 → ∀ y, y < pw2 k → (oTo k (pw2 k)).getD (chg k y) 0 = (y : Int) := by
  have h : ∀ k, k < 5 → ∀ y, y < pw2 k → (oTo k (pw2 k)).getD (chg k y) 0 = (y : Int) := by decide +kernel
  exact fun k hk => h k (by omega)
theorem grown_set' {w : World} {R : Nat} (i : Nat) (v : Value) : w.grownBy (w.setCell ⟨R, i, none⟩ v) (some R) := by
  refine ⟨rfl, rfl, rfl, by simp [World.setCell], fun k hk hne => ?_⟩
  simp only [World.setCell, Array.getElem?_modify]
  rw [if_neg (fun e => hne (by rw [e]))]
set_option maxHeartbeats 1000000 in
theorem order_yes (k : Nat) (w : World) (hk4 : k ≤ 4) :
    Calls Try.prog 24 #[.int .i64 (k : Int)] w fun e w' => ∃ r, e = .returned r ∧ Own w' w.heap.size r (oTo k (pw2 k)) ∧ w.grownBy w' none := by
  have p1 := pw2_pos k
  have p2 := pw2_16 hk4
  have SH := Lib.hid (shl_one64 k (by omega))
  have HL := Lib.hid (oTo_len k)
  have HC := Lib.hid (show ∀ y : Nat, y < pw2 k → ∀ W, Calls Try.prog 22 #[.int .i64 (k : Int), .int .i64 (y : Int)] W fun e w' => e = .returned (.int .i64 (chg k y : Nat)) ∧ W = w' from fun y hy W => by
    have := implChangesIn_any W (k : Int) (y : Int)
    have e : retChangesIn (k : Int) (y : Int) = (chg k y : Nat) := by
      rw [retChangesIn, if_pos ⟨by omega, by omega, by omega, by rw [Int.toNat_natCast]; omega⟩]; rfl
    rwa [e] at this)
  have HX := Lib.hid (show ∀ y, y < pw2 k → chg k y < pw2 k from chg_lt k hk4)
  have HZ := Lib.hid (show oTo k 0 = List.replicate (pw2 k) 0 from rfl)
  obtain ⟨P, hP⟩ : ∃ P, P = pw2 k := ⟨_, rfl⟩
  rw [← hP] at p1 p2 SH HL HC HX HZ ⊢
  clear hP
  have hkn : (k : Int) ≤ 4 := by omega
  go_enter Try.func24, Try.ntmps24
  go_wp2_with (at_make; refine wpList_mk rfl _ _ rfl P (congrArg (Value.int .i64) SH.out) (congrArg (Value.int .i64) SH.out) (by omega) ?_)
  intro w1 hrow hg
  rw [← HZ.out] at hrow
  go_wp2
  go_loopw [16] (fun i wr => ∃ y : Nat, y ≤ P ∧ i = .int .i64 y ∧ Row wr w.heap.size w.heap.size P P (oTo k y) ∧ w.grownBy wr none) (fun i _ => P - (intOf i).toNat)
  case atStart => exact ⟨0, Nat.zero_le _, rfl, hrow, hg⟩
  case round =>
    clear hrow hg
    obtain ⟨y, hy, rfl, hrow, hg⟩ := hrel
    by_cases hlt : y < P
    · have hx := HX.out y hlt
      go_wp2_with fail
      refine (HC.out y hlt _).mono ?_; rintro e w' ⟨rfl, rfl⟩
      have c1 := hrow.get (chg k y) hx
      have f1 := hrow.free (chg k y)
      have HR := Lib.hid hrow
      have HN := Lib.hid (show oTo k (y + 1) = (oTo k y).set (chg k y) (y : Int) from rfl)
      clear hrow
      obtain ⟨q, hq⟩ : ∃ q, q = chg k y := ⟨_, rfl⟩
      rw [← hq] at hx c1 f1 HN ⊢
      clear hq
      go_wp2_with fail
      go_roundw
      case rel =>
        refine ⟨y + 1, by omega, by go_num, ?_, ?_⟩
        · rw [HN.out]; exact HR.out.set q _
        · refine ⟨hg.os, hg.tape, hg.output, Nat.le_trans hg.size (by simp [World.setCell]), fun i hi hne => ?_⟩
          rw [← hg.block i hi hne]
          exact (grown_set' q _).block i (Nat.lt_of_lt_of_le hi hg.size) (by simp; omega)
      case measure => simp [intOf]; omega
    · have e : y = P := by omega
      have HE := Lib.hid e
      clear e
      go_wp2
      go_ret
      refine ⟨_, rfl, ?_, hg⟩
      rw [← HE.out]
      exact HE.out ▸ hrow.own
end Go.Proofs.Ytlnjfgmodfkiiaa
