/- Numbers of ones: the reference's loop and the library's count. Conditions: as each says. -/
import Derived.Test.YtfbflokkjgbabaaPow
namespace Go.Proofs.Ytfbflokkjgbabaa
open Go.RowKit
/-- How many of the last f digits are ones. -/
def popF : Nat → Nat → Nat
  | 0, _ => 0
  | f + 1, x => x % 2 + popF f (x / 2)
def popN (x : Nat) : Nat := popF 13 x
def cn1 (x : Nat) : Nat := (x / 2 &&& 6148914691236517205) + (x &&& 6148914691236517205)
def cn2 (x : Nat) : Nat := (x / 4 &&& 3689348814741910323) + (x &&& 3689348814741910323)
def cn3 (x : Nat) : Nat := (x / 16 + x &&& 1085102592571150095)
def cn4 (x : Nat) : Nat := x / 256 + x
def cn5 (x : Nat) : Nat := x / 65536 + x
def cn6 (x : Nat) : Nat := x / 4294967296 + x
def cn64 (x : Nat) : Nat := cn6 (cn5 (cn4 (cn3 (cn2 (cn1 x))))) &&& 127
theorem cn64_all : (List.range 8192).all (fun x => cn64 x == popN x) = true := by decide +kernel
theorem cn64_pop {x : Nat} (h : x ≤ 8191) : cn64 x = popN x := by
  have := List.all_eq_true.1 cn64_all x (List.mem_range.2 (by omega))
  exact eq_of_beq this
theorem wrapu64 (n : Int) (h0 : 0 ≤ n) (h1 : n < 2 ^ 64) : IntKind.u64.wrap n = n := by rw [IntKind.wrap_u64]; omega
theorem and64 (a b : Nat) (ha : a < 2 ^ 64) (hb : b < 2 ^ 64) : bits .and .u64 (a : Int) (b : Int) = ((a &&& b : Nat) : Int) := (bits_nat .u64 64 (by decide) wrapu64 a b ha hb).1
theorem andh (a k b : Nat) (ha : a ≤ 1048575) (hb : b < 2 ^ 64) : bits .and .u64 ((a : Int) / (k : Int)) (b : Int) = ((a / k &&& b : Nat) : Int) := by
  have h : a / k ≤ a := Nat.div_le_self _ _
  exact and64 (a / k) b (by omega) hb
theorem ones64_any (x : Nat) (w : World) (hx : x ≤ 8191) :
    Calls Try.prog 39 #[.int .u64 x] w fun e w' => e = .returned (.int .i64 (popN x : Nat)) ∧ w = w' := by
  have HX := Lib.hid (cn64_pop hx)
  have a1 := andh x 2 6148914691236517205 (by omega) (by decide)
  have a2 := and64 x 6148914691236517205 (by omega) (by decide)
  have l1 : x / 2 &&& 6148914691236517205 ≤ x / 2 := Nat.and_le_left
  have l2 : x &&& 6148914691236517205 ≤ x := Nat.and_le_left
  have k1 : IntKind.u64.wrap (((x / 2 &&& 6148914691236517205 : Nat) : Int) + ((x &&& 6148914691236517205 : Nat) : Int)) = (cn1 x : Nat) := wrapu64 _ (by omega) (by omega)
  have m1 : cn1 x ≤ 20000 := by unfold cn1; omega
  obtain ⟨y, hy⟩ : ∃ y, y = cn1 x := ⟨_, rfl⟩
  rw [← hy] at k1 m1
  have b1 := andh y 4 3689348814741910323 (by omega) (by decide)
  have b2 := and64 y 3689348814741910323 (by omega) (by decide)
  have l3 : y / 4 &&& 3689348814741910323 ≤ y / 4 := Nat.and_le_left
  have l4 : y &&& 3689348814741910323 ≤ y := Nat.and_le_left
  have k2 : IntKind.u64.wrap (((y / 4 &&& 3689348814741910323 : Nat) : Int) + ((y &&& 3689348814741910323 : Nat) : Int)) = (cn2 y : Nat) := wrapu64 _ (by omega) (by omega)
  have m2 : cn2 y ≤ 40000 := by unfold cn2; omega
  obtain ⟨z, hz⟩ : ∃ z, z = cn2 y := ⟨_, rfl⟩
  rw [← hz] at k2 m2
  have k3 : IntKind.u64.wrap ((z : Int) / 16 + (z : Int)) = ((z / 16 + z : Nat) : Int) := wrapu64 _ (by omega) (by omega)
  have c1 := and64 (z / 16 + z) 1085102592571150095 (by omega) (by decide)
  have l5 : cn3 z ≤ z / 16 + z := Nat.and_le_left
  have c2 : bits .and .u64 ((z / 16 + z : Nat) : Int) 1085102592571150095 = ((cn3 z : Nat) : Int) := c1
  obtain ⟨u, hu⟩ : ∃ u, u = cn3 z := ⟨_, rfl⟩
  rw [← hu] at c2 l5
  have k4 : IntKind.u64.wrap ((u : Int) + (u : Int) / 256) = ((cn4 u : Nat) : Int) := by rw [Int.add_comm]; exact wrapu64 _ (by omega) (by omega)
  have m4 : cn4 u ≤ 100000 := by unfold cn4; omega
  obtain ⟨v, hv⟩ : ∃ v, v = cn4 u := ⟨_, rfl⟩
  rw [← hv] at k4 m4
  have k5 : IntKind.u64.wrap ((v : Int) + (v : Int) / 65536) = ((cn5 v : Nat) : Int) := by rw [Int.add_comm]; exact wrapu64 _ (by omega) (by omega)
  have m5 : cn5 v ≤ 200000 := by unfold cn5; omega
  obtain ⟨s, hs⟩ : ∃ s, s = cn5 v := ⟨_, rfl⟩
  rw [← hs] at k5 m5
  have k6 : IntKind.u64.wrap ((s : Int) + (s : Int) / 4294967296) = ((cn6 s : Nat) : Int) := by rw [Int.add_comm]; exact wrapu64 _ (by omega) (by omega)
  have m6 : cn6 s ≤ 200000 := by unfold cn6; omega
  obtain ⟨t, ht⟩ : ∃ t, t = cn6 s := ⟨_, rfl⟩
  rw [← ht] at k6 m6
  have k7 : t &&& 127 = popN x := by rw [ht, hs, hv, hu, hz, hy]; exact HX.out
  have d1 := and20 t 127 (by omega) (by omega)
  rw [k7] at d1
  have k8 : wrap64 (t : Int) = (t : Int) := by unfold wrap64; omega
  have K := Lib.hid (And.intro a1 (And.intro a2 (And.intro k1 (And.intro b1 (And.intro b2 (And.intro k2 (And.intro k3 (And.intro c2 (And.intro k4 (And.intro k5 (And.intro k6 (And.intro k8 d1))))))))))))
  clear a1 a2 k1 b1 b2 k2 k3 c1 c2 k4 k5 k6 k7 k8 d1 hy hz hu hv hs ht l1 l2 l3 l4 l5 m1 m2 m4 m5 m6
  go_enter Try.func39, Try.ntmps39
  go_wp2
  obtain ⟨a1, a2, k1, b1, b2, k2, k3, c2, k4, k5, k6, k8, d1⟩ := K.out
  go_ret
  refine ⟨ret_int ?_, rfl⟩
  simp only [Int.cast_ofNat_Int] at a1 a2 k1 b1 b2 k2 k3 c2 k4 k5 k6 k8 d1
  simp only [a1, a2, k1, b1, b2, k2, k3, c2, k4, k5, k6]
  rw [k8, d1]
theorem onesC_any (x : Nat) (w : World) (hx : x ≤ 8191) :
    Calls Try.prog 31 #[.int .u64 x] w fun e w' => e = .returned (.int .i64 (popN x : Nat)) ∧ w = w' := by
  go_enter Try.func31, Try.ntmps31
  go_wp2_with (go_at_call 39; refine (ones64_any x _ hx).mono ?_; rintro e w' ⟨rfl, rfl⟩)
  go_ret
  exact ⟨rfl, rfl⟩
theorem popF_step (f x : Nat) : popF (f + 1) x = x % 2 + popF f (x / 2) := rfl
theorem popF_le (f x : Nat) : popF f x ≤ f := by
  induction f generalizing x with
  | zero => exact Nat.le_refl _
  | succ f ih => have := ih (x / 2); rw [popF_step]; omega
theorem popF_zero (f : Nat) : popF f 0 = 0 := by induction f with | zero => rfl | succ f ih => rw [popF_step]; simp [ih]
theorem ones_any (x : Nat) (w : World) (hx : x ≤ 8191) :
    Calls Try.prog 41 #[.int .i64 x] w fun e w' => e = .returned (.int .i64 (popN x : Nat)) ∧ w = w' := by
  obtain ⟨r, hr⟩ : ∃ r, r = popN x := ⟨_, rfl⟩
  rw [← hr]
  have hr13 : r ≤ 13 := by rw [hr]; exact popF_le 13 x
  have H0 := Lib.hid (show 0 + popF 13 x = r by rw [hr]; simp [popN])
  clear hr
  go_enter Try.func41, Try.ntmps41
  go_wp2
  go_loop [0, 3] (fun x c => ∃ f y n : Nat, y < 2 ^ f ∧ f ≤ 13 ∧ x = .int .i64 y ∧ c = .int .i64 n ∧ n + popF f y = r) (fun x _ => (intOf x).toNat)
  case atStart => exact ⟨13, x, 0, by omega, by omega, rfl, rfl, H0.out⟩
  case round =>
    obtain ⟨f, y, n, hy, hf, rfl, rfl, hs⟩ := hrel
    have HY := Lib.hid hy
    have hn : n ≤ 13 := by omega
    have HS := Lib.hid hs
    clear hs hy H0
    by_cases hlt : 0 < y
    · obtain ⟨g, rfl⟩ : ∃ g, f = g + 1 := by
        cases f with
        | zero => have := HY.out; simp at this; omega
        | succ g => exact ⟨g, rfl⟩
      have HN := Lib.hid (show n + y % 2 + popF g (y / 2) = r by have := HS.out; rw [popF_step] at this; omega)
      have hy8 : y ≤ 8191 := by
        have a := HY.out
        have b : 2 ^ (g + 1) ≤ 2 ^ 13 := Nat.pow_le_pow_right (by omega) hf
        have c : (2 : Nat) ^ 13 = 8192 := by decide
        omega
      have HG := Lib.hid (show y / 2 < 2 ^ g by have := HY.out; rw [Nat.pow_succ] at this; omega)
      clear HS HY
      go_wp2
      go_round
      case rel => exact ⟨g, y / 2, n + y % 2, HG.out, by omega, by go_num, by go_num, HN.out⟩
      case measure => simp [intOf]; omega
    · obtain rfl : y = 0 := by omega
      have HE := Lib.hid (show n = r by have := HS.out; rw [popF_zero] at this; omega)
      clear HS HY hlt
      go_wp2
      go_ret
      exact ⟨ret_int (by rw [HE.out]), rfl⟩
theorem onesL_any (x : Nat) (w : World) (hx : x ≤ 8191) :
    Calls Try.prog 13 #[.int .i64 x] w fun e w' => e = .returned (.int .i64 (popN x : Nat)) ∧ w = w' := by
  obtain ⟨r, hr⟩ : ∃ r, r = popN x := ⟨_, rfl⟩
  rw [← hr]
  have hr13 : r ≤ 13 := by rw [hr]; exact popF_le 13 x
  have H0 := Lib.hid (show 0 + popF 13 x = r by rw [hr]; simp [popN])
  clear hr
  go_enter Try.func13, Try.ntmps13
  go_wp2
  go_loop [0, 3] (fun x c => ∃ f y n : Nat, y < 2 ^ f ∧ f ≤ 13 ∧ x = .int .i64 y ∧ c = .int .i64 n ∧ n + popF f y = r) (fun x _ => (intOf x).toNat)
  case atStart => exact ⟨13, x, 0, by omega, by omega, rfl, rfl, H0.out⟩
  case round =>
    obtain ⟨f, y, n, hy, hf, rfl, rfl, hs⟩ := hrel
    have HY := Lib.hid hy
    have hn : n ≤ 13 := by omega
    have HS := Lib.hid hs
    clear hs hy H0
    by_cases hlt : 0 < y
    · obtain ⟨g, rfl⟩ : ∃ g, f = g + 1 := by
        cases f with
        | zero => have := HY.out; simp at this; omega
        | succ g => exact ⟨g, rfl⟩
      have HN := Lib.hid (show n + y % 2 + popF g (y / 2) = r by have := HS.out; rw [popF_step] at this; omega)
      have hy8 : y ≤ 8191 := by
        have a := HY.out
        have b : 2 ^ (g + 1) ≤ 2 ^ 13 := Nat.pow_le_pow_right (by omega) hf
        have c : (2 : Nat) ^ 13 = 8192 := by decide
        omega
      have HG := Lib.hid (show y / 2 < 2 ^ g by have := HY.out; rw [Nat.pow_succ] at this; omega)
      clear HS HY
      go_wp2
      go_round
      case rel => exact ⟨g, y / 2, n + y % 2, HG.out, by omega, by go_num, by go_num, HN.out⟩
      case measure => simp [intOf]; omega
    · obtain rfl : y = 0 := by omega
      have HE := Lib.hid (show n = r by have := HS.out; rw [popF_zero] at this; omega)
      clear HS HY hlt
      go_wp2
      go_ret
      exact ⟨ret_int (by rw [HE.out]), rfl⟩
end Go.Proofs.Ytfbflokkjgbabaa
