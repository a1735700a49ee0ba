/- SelfOf: the reference and the program return the sums of products of numbers that are apart. Conditions: at most 1048576 numbers. -/
import Derived.Test.YtjakoeamnmdcmaaRow1
import Derived.Test.YtjakoeamnmdcmaaMem
namespace Go.Proofs.Ytjakoeamnmdcmaa
open Go.RowKit
/-- The sum of the first i products of numbers that are d apart. -/
def seSum (zs : List Int) (d : Nat) : Nat → Int
  | 0 => 0
  | i + 1 => seSum zs d i + zs.getD i 0 * zs.getD (i + d) 0
/-- The first d sums. -/
def seTo (zs : List Int) : Nat → List Int
  | 0 => []
  | d + 1 => seTo zs d ++ [seSum zs d (zs.length - d)]
theorem seTo_len (zs : List Int) (k : Nat) : (seTo zs k).length = k := by
  induction k with
  | zero => rfl
  | succ k ih => simp [seTo, ih]
theorem mul_bd {x y : Int} (h1 : -1000 ≤ x ∧ x ≤ 1000) (h2 : -1000 ≤ y ∧ y ≤ 1000) : -1000000 ≤ x * y ∧ x * y ≤ 1000000 := by
  have h : (x * y).natAbs ≤ 1000000 := by
    rw [Int.natAbs_mul]
    exact Nat.mul_le_mul (show x.natAbs ≤ 1000 by omega) (show y.natAbs ≤ 1000 by omega)
  omega
theorem seSum_bd {zs : List Int} (h : ∀ j, -1000 ≤ zs.getD j 0 ∧ zs.getD j 0 ≤ 1000) (d i : Nat) : -(1000000 * (i : Int)) ≤ seSum zs d i ∧ seSum zs d i ≤ 1000000 * i := by
  induction i with
  | zero => simp [seSum]
  | succ i ih => have := mul_bd (h i) (h (i + d)); simp only [seSum]; omega
def resSelfOf (zs : List Int) : List Int := if vrow zs = true then seTo zs zs.length else []
theorem resSelfOf_len (zs : List Int) : (resSelfOf zs).length ≤ 1048576 := by
  unfold resSelfOf
  split
  · rename_i h; rw [seTo_len]; have := vrow_len h; omega
  · simp
set_option maxHeartbeats 1000000 in
theorem itself_any (w : World) (v : Value) (zs : List Int) (h : Rd w v zs) (hv : vrow zs = true) :
    Calls Try.prog 32 #[v] w fun e w' => ∃ r, e = .returned r ∧ Own w' w.heap.size r (seTo zs zs.length) ∧ Below w.heap.size w w' := by
  have hl := vrow_len hv
  have HB := Lib.hid (vrow_all hv)
  obtain ⟨a, cap, rfl, hlc, hm, hc⟩ := h
  obtain ⟨n, hn⟩ : ∃ n, n = zs.length := ⟨_, rfl⟩
  rw [← hn] at hlc hl ⊢
  have HN := Lib.hid hn
  have HC := Lib.hid hc
  clear hc hn hm hv
  go_enter Try.func32, Try.ntmps32
  go_wp2
  go_loopw [3, 4, 5, 6] (fun u i _ _ wr => ∃ k : Nat, k ≤ n ∧ i = .int .i64 k ∧ Own wr w.heap.size u (seTo zs k) ∧ Below w.heap.size w wr) (fun _ i _ _ _ => n - (intOf i).toNat)
  case atStart => exact ⟨0, Nat.zero_le _, rfl, Own.lit0 w (Nat.le_refl _), (Below.refl _ _).alloc (Nat.le_refl _) _⟩
  case round =>
    obtain ⟨k, hk, rfl, hown, hbel⟩ := hrel
    by_cases hlt : k < n
    · obtain ⟨b, o, rfl, hcell⟩ := HC.out.resolve_left (by intro h0; have := HN.out; rw [h0] at this; simp at this; omega)
      have hbl := World.block_lt_of_cell? w _ (hcell 0 (by rw [← HN.out]; omega))
      have HCC := Lib.hid hcell
      clear hcell HC
      have HLk := Lib.hid (seTo_len zs k)
      obtain ⟨wo, rfl⟩ : ∃ wo : World, wo = wr := ⟨_, rfl⟩
      go_wp2
      go_loopw [5, 6] (fun x i wr => ∃ j : Nat, j ≤ n - k ∧ i = .int .i64 j ∧ x = .int .i64 (seSum zs k j) ∧ Own wr w.heap.size u3 (seTo zs k) ∧ Below w.heap.size w wr) (fun _ i _ => n - k - (intOf i).toNat)
      case atStart => exact ⟨0, Nat.zero_le _, rfl, rfl, hown, hbel⟩
      case round =>
        obtain ⟨j, hj, rfl, rfl, hown, hbel⟩ := hrel
        have hfs := seSum_bd HB.out k j
        by_cases hlt2 : j + k < n
        · have h1 : wr.cell? ⟨b, o + j, none⟩ = some (.int .i64 (zs.getD j 0)) := (hbel.cell (p := ⟨b, o + j, none⟩) hbl).trans (HCC.out j (by rw [← HN.out]; omega))
          have h2 : wr.cell? ⟨b, o + (j + k), none⟩ = some (.int .i64 (zs.getD (j + k) 0)) := (hbel.cell (p := ⟨b, o + (j + k), none⟩) hbl).trans (HCC.out (j + k) (by rw [← HN.out]; omega))
          have hb1 := HB.out j
          have hb2 := HB.out (j + k)
          obtain ⟨x, hx⟩ : ∃ x, x = zs.getD j 0 := ⟨_, rfl⟩
          rw [← hx] at h1 hb1
          obtain ⟨z, hz⟩ : ∃ z, z = zs.getD (j + k) 0 := ⟨_, rfl⟩
          rw [← hz] at h2 hb2
          have hmb := mul_bd hb1 hb2
          have HX := Lib.hid (show seSum zs k (j + 1) = seSum zs k j + x * z by rw [hx, hz]; rfl)
          clear hx hz
          obtain ⟨y, hy⟩ : ∃ y, y = seSum zs k j := ⟨_, rfl⟩
          rw [← hy] at hfs HX ⊢
          clear hy
          have s0 : (0 : Int) ≤ (j : Int) := by omega
          have s1 : (j : Int) < (n : Int) := by omega
          have s2 : (j : Int) + (k : Int) < (n : Int) := by omega
          have s3 : ((j : Int) + (k : Int)).toNat = j + k := by omega
          have s4 : (0 : Int) ≤ (j : Int) + (k : Int) := by omega
          have s5 : IntKind.i64.wrap ((j : Int) + (k : Int)) = (j : Int) + (k : Int) := IntWalk.i64_in _ (by omega)
          have s6 : IntKind.i64.wrap (x * z) = x * z := IntWalk.i64_in _ (by omega)
          have s7 : IntKind.i64.wrap (y + x * z) = y + x * z := IntWalk.i64_in _ (by omega)
          go_wp2
          go_still_tail 13, (by kernel_rfl)
          clear s3 s5 s6 s7
          change wpList _ _ _ _ _ wr.drew
          go_wp2
          go_roundw
          case rel => exact ⟨j + 1, by omega, by go_num, by rw [HX.out], hown.drew, hbel.drew⟩
          case measure => simp [intOf]; omega
        · have e : j = n - k := by omega
          have HE := Lib.hid (show seSum zs k j = seSum zs k (zs.length - k) by rw [e, HN.out])
          have hz := hbel.size
          clear e
          go_wp2_with (at_builtin; refine wpList_app rfl _ _ rfl w.heap.size u3 (seTo zs k) (seSum zs k j) rfl hown rfl (by rw [HLk.out]; omega) (by omega) ?_)
          intro v' w1 hown' hg
          have hbel' := below_app hbel hown hz hg
          clear hg hown hbel
          go_wp2
          go_roundw
          case rel => exact ⟨k + 1, by omega, by go_num, by unfold seTo; rw [← HE.out]; exact hown', hbel'⟩
          case measure => simp [intOf]; omega
    · go_wp2
      go_ret
      have e : k = n := by omega
      subst e
      exact ret_own hown rfl hbel
set_option maxHeartbeats 1000000 in
theorem implSelfOf_any (w : World) (v : Value) (zs : List Int) (h : Rd w v zs) (hl : zs.length ≤ 1048576) :
    Calls Try.prog 35 #[v] w fun e w' => ∃ r, e = .returned r ∧ Own w' w.heap.size r (resSelfOf zs) ∧ Below w.heap.size w w' := by
  by_cases hv : vrow zs = true
  · have HR := Lib.hid (show resSelfOf zs = _ by rw [resSelfOf, if_pos hv])
    have hl16 := vrow_len hv
    have HB := Lib.hid (vrow_all hv)
    have h' := h
    obtain ⟨a, cap, rfl, hlc, hm, hc⟩ := h'
    obtain ⟨n, hn⟩ : ∃ n, n = zs.length := ⟨_, rfl⟩
    rw [← hn] at hlc hl16 HR h hl ⊢
    have HH := Lib.hid h
    have HN := Lib.hid hn
    have HC := Lib.hid hc
    have HV := Lib.hid hv
    clear hc hn hm h hl
    have hl : zs.length ≤ 1048576 := by rw [← HN.out]; omega
    go_enter Try.func35, Try.ntmps35
    go_wp2_with (go_at_call 30; refine (implValidRow_any _ _ zs HH.out hl).mono ?_; rintro e w' ⟨rfl, rfl⟩)
    go_loopw [3, 4, 5, 6, 13] (fun u _ _ _ i wr => ∃ k : Nat, k ≤ n ∧ i = .int .i64 k ∧ Own wr w.heap.size u (seTo zs k) ∧ Below w.heap.size w wr) (fun _ _ _ _ i _ => n - (intOf i).toNat)
    case atStart => exact ⟨0, Nat.zero_le _, rfl, Own.lit0 w (Nat.le_refl _), (Below.refl _ _).alloc (Nat.le_refl _) _⟩
    case round =>
      obtain ⟨k, hk, rfl, hown, hbel⟩ := hrel
      by_cases hlt : k < n
      · obtain ⟨b, o, rfl, hcell⟩ := HC.out.resolve_left (by intro h0; have := HN.out; rw [h0] at this; simp at this; omega)
        have hbl := World.block_lt_of_cell? w _ (hcell 0 (by rw [← HN.out]; omega))
        have HCC := Lib.hid hcell
        clear hcell HC
        have HLk := Lib.hid (seTo_len zs k)
        obtain ⟨wo, rfl⟩ : ∃ wo : World, wo = wr := ⟨_, rfl⟩
        go_wp2
        go_loopw [5, 6] (fun x i wr => ∃ j : Nat, j ≤ n - k ∧ i = .int .i64 j ∧ x = .int .i64 (seSum zs k j) ∧ Own wr w.heap.size u3 (seTo zs k) ∧ Below w.heap.size w wr) (fun _ i _ => n - k - (intOf i).toNat)
        case atStart => exact ⟨0, Nat.zero_le _, rfl, rfl, hown, hbel⟩
        case round =>
          obtain ⟨j, hj, rfl, rfl, hown, hbel⟩ := hrel
          have hfs := seSum_bd HB.out k j
          by_cases hlt2 : j + k < n
          · have h1 : wr.cell? ⟨b, o + j, none⟩ = some (.int .i64 (zs.getD j 0)) := (hbel.cell (p := ⟨b, o + j, none⟩) hbl).trans (HCC.out j (by rw [← HN.out]; omega))
            have h2 : wr.cell? ⟨b, o + (j + k), none⟩ = some (.int .i64 (zs.getD (j + k) 0)) := (hbel.cell (p := ⟨b, o + (j + k), none⟩) hbl).trans (HCC.out (j + k) (by rw [← HN.out]; omega))
            have hb1 := HB.out j
            have hb2 := HB.out (j + k)
            obtain ⟨x, hx⟩ : ∃ x, x = zs.getD j 0 := ⟨_, rfl⟩
            rw [← hx] at h1 hb1
            obtain ⟨z, hz⟩ : ∃ z, z = zs.getD (j + k) 0 := ⟨_, rfl⟩
            rw [← hz] at h2 hb2
            have hmb := mul_bd hb1 hb2
            have HX := Lib.hid (show seSum zs k (j + 1) = seSum zs k j + x * z by rw [hx, hz]; rfl)
            clear hx hz
            obtain ⟨y, hy⟩ : ∃ y, y = seSum zs k j := ⟨_, rfl⟩
            rw [← hy] at hfs HX ⊢
            clear hy
            have s0 : (0 : Int) ≤ (j : Int) := by omega
            have s1 : (j : Int) < (n : Int) := by omega
            have s2 : (j : Int) + (k : Int) < (n : Int) := by omega
            have s3 : ((j : Int) + (k : Int)).toNat = j + k := by omega
            have s4 : (0 : Int) ≤ (j : Int) + (k : Int) := by omega
            have s5 : IntKind.i64.wrap ((j : Int) + (k : Int)) = (j : Int) + (k : Int) := IntWalk.i64_in _ (by omega)
            have s6 : IntKind.i64.wrap (x * z) = x * z := IntWalk.i64_in _ (by omega)
            have s7 : IntKind.i64.wrap (y + x * z) = y + x * z := IntWalk.i64_in _ (by omega)
            go_wp2
            go_still_tail 13, (by kernel_rfl)
            clear s3 s5 s6 s7
            change wpList _ _ _ _ _ wr.drew
            go_wp2
            go_roundw
            case rel => exact ⟨j + 1, by omega, by go_num, by rw [HX.out], hown.drew, hbel.drew⟩
            case measure => simp [intOf]; omega
          · have e : j = n - k := by omega
            have HE := Lib.hid (show seSum zs k j = seSum zs k (zs.length - k) by rw [e, HN.out])
            have hz := hbel.size
            clear e
            go_wp2_with (at_builtin; refine wpList_app rfl _ _ rfl w.heap.size u3 (seTo zs k) (seSum zs k j) rfl hown rfl (by rw [HLk.out]; omega) (by omega) ?_)
            intro v' w1 hown' hg
            have hbel' := below_app hbel hown hz hg
            clear hg hown hbel
            go_wp2
            go_roundw
            case rel => exact ⟨k + 1, by omega, by go_num, by unfold seTo; rw [← HE.out]; exact hown', hbel'⟩
            case measure => simp [intOf]; omega
      · go_wp2
        go_ret
        have e : k = n := by omega
        subst e
        exact ret_own hown HR.out hbel
  · have hv' : vrow zs = false := by simpa using hv
    have HR := Lib.hid (show resSelfOf zs = [] by rw [resSelfOf, if_neg hv])
    clear hv
    go_enter Try.func35, Try.ntmps35
    go_wp2_with (go_at_call 30; refine (implValidRow_any _ _ zs h hl).mono ?_; rintro e w' ⟨rfl, rfl⟩)
    go_ret
    exact ret_own (Own.nil _ _) HR.out (Below.refl _ _)
end Go.Proofs.Ytjakoeamnmdcmaa
