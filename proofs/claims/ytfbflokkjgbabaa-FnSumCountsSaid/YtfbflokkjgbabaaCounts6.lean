/- SumCounts and SumSet: the reference and the program return the same. Conditions: none. -/
import Derived.Test.YtfbflokkjgbabaaSparse6
import Derived.Test.YtfbflokkjgbabaaMem
namespace Go.Proofs.Ytfbflokkjgbabaa
open Go.RowKit
/-- Place x with the first k places. -/
def scIn (a b x : Nat) (out : List Int) : Nat → List Int
  | 0 => out
  | k + 1 => (scIn a b x out k).set (pl x k) ((scIn a b x out k).getD (pl x k) 0 + (bitN a x * bitN b k : Nat))
/-- The first x places. -/
def scTo (a b : Nat) : Nat → List Int
  | 0 => List.replicate 13 0
  | x + 1 => scIn a b x (scTo a b x) 13
theorem scIn_len (a b x : Nat) (out : List Int) (k : Nat) : (scIn a b x out k).length = out.length := by
  induction k with
  | zero => rfl
  | succ k ih => simp [scIn, ih]
theorem scTo_len (a b x : Nat) : (scTo a b x).length = 13 := by
  induction x with
  | zero => simp [scTo]
  | succ k ih => simp [scTo, scIn_len, ih]
/-- All numbers are from 0 to M. -/
def cntB (M : Int) (zs : List Int) : Prop := ∀ j, 0 ≤ zs.getD j 0 ∧ zs.getD j 0 ≤ M
theorem cntB_set {M M' x : Int} {zs : List Int} (h : cntB M zs) (hM : M ≤ M') (h1 : 0 ≤ x) (h2 : x ≤ M') (q : Nat) : cntB M' (zs.set q x) := by
  intro j
  have := h j
  simp only [List.getD_eq_getElem?_getD, List.getElem?_set] at *
  split
  · split
    · simp; omega
    · simp; omega
  · omega
theorem bit_mul (a x b k : Nat) : bitN a x * bitN b k ≤ 1 := by
  have h1 := bitN_le a x; have h2 := bitN_le b k
  exact Nat.le_trans (Nat.mul_le_mul h1 h2) (by omega)
theorem scIn_bd {a b x : Nat} {out : List Int} {M : Int} (ho : cntB M out) (k : Nat) : cntB (M + k) (scIn a b x out k) := by
  induction k with
  | zero => simpa [scIn] using ho
  | succ k ih =>
    have t := ih (pl x k)
    have m := bit_mul a x b k
    exact cntB_set ih (by omega) (by omega) (by omega) _
theorem scTo_bd (a b x : Nat) : cntB (13 * x) (scTo a b x) := by
  induction x with
  | zero =>
    intro j
    have h0 : (List.replicate 13 (0 : Int)).getD j 0 = 0 := by
      rw [List.getD_eq_getElem?_getD, List.getElem?_replicate]; split <;> rfl
    show 0 ≤ (List.replicate 13 (0 : Int)).getD j 0 ∧ (List.replicate 13 (0 : Int)).getD j 0 ≤ _
    rw [h0]; omega
  | succ x ih =>
    have t := scIn_bd (a := a) (b := b) (x := x) ih 13
    intro j
    have := t j
    simp only [scTo]
    omega
theorem set_same (l : List Int) (q : Nat) : l.set q (l.getD q 0) = l := by
  apply List.ext_getElem?
  intro j
  rw [List.getElem?_set]
  split
  · rename_i e
    subst e
    split
    · rename_i h; simp [h]
    · rename_i h; rw [List.getElem?_eq_none (by omega)]
  · rfl
def okSumCounts (a b : Int) : Bool := okM a && okM b
def resSumCounts (a b : Int) : List Int := if okSumCounts a b = true then scTo a.toNat b.toNat 13 else []
theorem resSumCounts_len (a b : Int) : (resSumCounts a b).length ≤ 1048576 := by
  unfold resSumCounts; split
  · rw [scTo_len]; omega
  · simp
set_option maxHeartbeats 1000000 in
theorem specCounts_yes (a b : Nat) (w : World) (ha : a ≤ 8191) (hb : b ≤ 8191) :
    Calls Try.prog 10 #[.int .i64 a, .int .i64 b] w fun e w' => ∃ r, e = .returned r ∧ Own w' w.heap.size r (scTo a b 13) ∧ Below w.heap.size w w' := by
  have HA := Lib.hid (okM_nat ha)
  have HB := Lib.hid (okM_nat hb)
  go_enter Try.func10, Try.ntmps10
  go_wp2_with fail
  refine (validMarks_any _ _).mono ?_; rintro e w' ⟨rfl, hww⟩; have e2 := HA.out; rw [e2]; subst hww; clear e2
  go_wp2_with fail
  refine (validMarks_any _ _).mono ?_; rintro e w' ⟨rfl, hww⟩; have e2 := HB.out; rw [e2]; subst hww; clear e2
  go_wp2_with (at_make; refine wpList_mk rfl _ _ rfl 13 rfl rfl (by omega) ?_)
  intro w1 hrow hgrow
  have hb1 : Below w.heap.size w w1 := (Below.refl _ _).grown hgrow (Nat.le_refl _) (by simp)
  clear hgrow
  have hrow : Row w1 w.heap.size w.heap.size 13 13 (scTo a b 0) := hrow
  go_wp2
  go_loopw [6, 7, 8] (fun i _ _ wr => ∃ x : Nat, x ≤ 13 ∧ i = .int .i64 x ∧ Row wr w.heap.size w.heap.size 13 13 (scTo a b x) ∧ Below w.heap.size w wr) (fun i _ _ _ => 13 - (intOf i).toNat)
  case atStart => exact ⟨0, Nat.zero_le _, rfl, hrow, hb1⟩
  case round =>
    obtain ⟨x, hx, rfl, hr, hbel⟩ := hrel
    clear hrow hb1
    by_cases hlt : x < 13
    · obtain ⟨wo, rfl⟩ : ∃ wo : World, wo = wr := ⟨_, rfl⟩
      have hlti : (x : Int) < 13 := by omega
      go_wp2
      go_loopw [7, 8] (fun i _ wr => ∃ k : Nat, k ≤ 13 ∧ i = .int .i64 k ∧ Row wr w.heap.size w.heap.size 13 13 (scIn a b x (scTo a b x) k) ∧ Below w.heap.size w wr) (fun i _ _ => 13 - (intOf i).toNat)
      case atStart => exact ⟨0, Nat.zero_le _, rfl, hr, hbel⟩
      case round =>
        obtain ⟨k, hk, rfl, hr', hbel'⟩ := hrel
        clear hr hbel
        by_cases hltk : k < 13
        · have hq := pl_lt x k
          have hpl : ((x : Int) + (k : Int)) % 13 = ((pl x k : Nat) : Int) := rfl
          have h1 := hr'.get (pl x k) hq
          have h2 := hr'.free (pl x k)
          have rz := scIn_bd (a := a) (b := b) (x := x) (scTo_bd a b x) k (pl x k)
          have mb := bit_mul a x b k
          have B1 := Lib.hid (bit_any a x wr.drew (by omega) (by omega))
          have B2 := Lib.hid (bit_any b k wr.drew (by omega) (by omega))
          have HE := Lib.hid (show scIn a b x (scTo a b x) (k + 1) = (scIn a b x (scTo a b x) k).set (pl x k) ((scIn a b x (scTo a b x) k).getD (pl x k) 0 + (bitN a x * bitN b k : Nat)) from rfl)
          obtain ⟨q, hqq⟩ : ∃ q, q = pl x k := ⟨_, rfl⟩
          rw [← hqq] at hq hpl h1 h2 rz HE
          obtain ⟨z, hz⟩ : ∃ z, z = (scIn a b x (scTo a b x) k).getD q 0 := ⟨_, rfl⟩
          rw [← hz] at h1 rz HE
          obtain ⟨s, hs⟩ : ∃ s, s = bitN a x := ⟨_, rfl⟩
          obtain ⟨t, ht⟩ : ∃ t, t = bitN b k := ⟨_, rfl⟩
          rw [← hs] at mb B1 HE
          rw [← ht] at mb B2 HE
          clear hqq hz hs ht
          have e1 : (s : Int) * (t : Int) = ((s * t : Nat) : Int) := by rw [Int.natCast_mul]
          obtain ⟨m, hm⟩ : ∃ m, m = s * t := ⟨_, rfl⟩
          rw [← hm] at mb e1 HE
          clear hm
          have s3 : (0 : Int) ≤ (q : Int) := by omega
          have s4 : (q : Int) < 13 := by omega
          have s5 : IntKind.i64.wrap (m : Int) = (m : Int) := IntWalk.i64_in _ (by omega)
          have s6 : IntKind.i64.wrap (z + (m : Int)) = z + (m : Int) := IntWalk.i64_in _ (by omega)
          go_wp2
          refine wp_region_still_tail 15 (by kernel_rfl) (by kernel_rfl) ?_
          simp only [List.take_succ_cons, List.take_zero, List.drop_succ_cons, List.drop_zero]
          iterate 8 still_step
          still_call (B1.out.mono fun _ _ h => ⟨h.1, h.2.symm⟩)
          iterate 2 still_step
          still_call (B2.out.mono fun _ _ h => ⟨h.1, h.2.symm⟩)
          repeat still_step
          refine wpStill_nil ?_
          clear hpl e1 s5 s6 B1 B2
          change wpList _ _ _ _ _ wr.drew
          go_wp2
          go_roundw
          case rel => exact ⟨k + 1, by omega, by go_num, by rw [HE.out]; exact hr'.drew.set q _, hbel'.drew.setCell (Nat.le_refl _) _⟩
          case measure => simp [intOf]; omega
        · have e : k = 13 := by omega
          have HE := Lib.hid (show scIn a b x (scTo a b x) k = scTo a b (x + 1) by rw [e]; rfl)
          clear e hk
          go_wp2
          go_roundw
          case rel => exact ⟨x + 1, by omega, by go_num, by rw [← HE.out]; exact hr', hbel'⟩
          case measure => simp [intOf]; omega
    · have e : x = 13 := by omega
      have HE := Lib.hid e
      clear e
      go_wp2
      go_ret
      exact ret_own hr.own (by rw [HE.out]) hbel
theorem specSumCounts_any (w : World) (a b : Int) :
    Calls Try.prog 10 #[.int .i64 a, .int .i64 b] w fun e w' => ∃ r, e = .returned r ∧ Own w' w.heap.size r (resSumCounts a b) ∧ Below w.heap.size w w' := by
  by_cases ha : okM a = true
  · by_cases hb : okM b = true
    · have HR := Lib.hid (show resSumCounts a b = scTo a.toNat b.toNat 13 by simp [resSumCounts, okSumCounts, ha, hb])
      obtain ⟨n, rfl, hn⟩ := okM_ex ha
      obtain ⟨m, rfl, hm⟩ := okM_ex hb
      rw [HR.out]
      exact specCounts_yes n m w hn hm
    · have hb' : okM b = false := by simpa using hb
      have HR := Lib.hid (show resSumCounts a b = [] by simp [resSumCounts, okSumCounts, hb'])
      have HA := Lib.hid ha
      have HB := Lib.hid hb'
      clear ha hb hb'
      go_enter Try.func10, Try.ntmps10
      go_wp2_with fail
      refine (validMarks_any _ _).mono ?_; rintro e w' ⟨rfl, hww⟩; have e2 := HA.out; rw [e2]; subst hww; clear e2
      go_wp2_with fail
      refine (validMarks_any _ _).mono ?_; rintro e w' ⟨rfl, hww⟩; have e2 := HB.out; rw [e2]; subst hww; clear e2
      go_wp2_with fail
      go_ret
      exact ret_own (Own.nil _ _) HR.out (Below.refl _ _)
  · have ha' : okM a = false := by simpa using ha
    have HR := Lib.hid (show resSumCounts a b = [] by simp [resSumCounts, okSumCounts, ha'])
    have HA := Lib.hid ha'
    clear ha ha'
    go_enter Try.func10, Try.ntmps10
    go_wp2_with fail
    refine (validMarks_any _ _).mono ?_; rintro e w' ⟨rfl, hww⟩; have e2 := HA.out; rw [e2]; subst hww; clear e2
    go_wp2_with fail
    go_ret
    exact ret_own (Own.nil _ _) HR.out (Below.refl _ _)
set_option maxHeartbeats 1000000 in
theorem implCounts_yes (a b : Nat) (w : World) (ha : a ≤ 8191) (hb : b ≤ 8191) :
    Calls Try.prog 8 #[.int .i64 a, .int .i64 b] w fun e w' => ∃ r, e = .returned r ∧ Own w' w.heap.size r (scTo a b 13) ∧ Below w.heap.size w w' := by
  have HA := Lib.hid (okM_nat ha)
  have HB := Lib.hid (okM_nat hb)
  go_enter Try.func8, Try.ntmps8
  go_wp2_with fail
  refine (setOk_any _ _).mono ?_; rintro e w' ⟨rfl, hww⟩; have e2 := HA.out; rw [e2]; subst hww; clear e2
  go_wp2_with fail
  refine (setOk_any _ _).mono ?_; rintro e w' ⟨rfl, hww⟩; have e2 := HB.out; rw [e2]; subst hww; clear e2
  go_wp2_with (at_make; refine wpList_mk rfl _ _ rfl 13 rfl rfl (by omega) ?_)
  intro w1 hrow hgrow
  have hb1 : Below w.heap.size w w1 := (Below.refl _ _).grown hgrow (Nat.le_refl _) (by simp)
  clear hgrow
  have hrow : Row w1 w.heap.size w.heap.size 13 13 (scTo a b 0) := hrow
  go_wp2
  go_loopw [6, 7, 17] (fun _ _ i wr => ∃ x : Nat, x ≤ 13 ∧ i = .int .i64 x ∧ Row wr w.heap.size w.heap.size 13 13 (scTo a b x) ∧ Below w.heap.size w wr) (fun _ _ i _ => 13 - (intOf i).toNat)
  case atStart => exact ⟨0, Nat.zero_le _, rfl, hrow, hb1⟩
  case round =>
    obtain ⟨x, hx, rfl, hr, hbel⟩ := hrel
    clear hrow hb1
    by_cases hlt : x < 13
    · obtain ⟨wo, rfl⟩ : ∃ wo : World, wo = wr := ⟨_, rfl⟩
      have hlti : (x : Int) < 13 := by omega
      go_wp2
      go_loopw [7, 20] (fun _ i wr => ∃ k : Nat, k ≤ 13 ∧ i = .int .i64 k ∧ Row wr w.heap.size w.heap.size 13 13 (scIn a b x (scTo a b x) k) ∧ Below w.heap.size w wr) (fun _ i _ => 13 - (intOf i).toNat)
      case atStart => exact ⟨0, Nat.zero_le _, rfl, hr, hbel⟩
      case round =>
        obtain ⟨k, hk, rfl, hr', hbel'⟩ := hrel
        clear hr hbel
        by_cases hltk : k < 13
        · have hq := pl_lt x k
          have hpl : ((x : Int) + (k : Int)) % 13 = ((pl x k : Nat) : Int) := rfl
          have h1 := hr'.get (pl x k) hq
          have h2 := hr'.free (pl x k)
          have rz := scIn_bd (a := a) (b := b) (x := x) (scTo_bd a b x) k (pl x k)
          have b1 := bitN_le a x
          have b2 := bitN_le b k
          have k1 := shr_and a x (by omega)
          have k2 := shr_and b k (by omega)
          have HE := Lib.hid (show scIn a b x (scTo a b x) (k + 1) = (scIn a b x (scTo a b x) k).set (pl x k) ((scIn a b x (scTo a b x) k).getD (pl x k) 0 + (bitN a x * bitN b k : Nat)) from rfl)
          have HSS := Lib.hid (set_same (scIn a b x (scTo a b x) k) (pl x k))
          obtain ⟨q, hqq⟩ : ∃ q, q = pl x k := ⟨_, rfl⟩
          rw [← hqq] at hq hpl h1 h2 rz HE HSS
          obtain ⟨z, hz⟩ : ∃ z, z = (scIn a b x (scTo a b x) k).getD q 0 := ⟨_, rfl⟩
          rw [← hz] at h1 rz HE HSS
          obtain ⟨s, hs⟩ : ∃ s, s = bitN a x := ⟨_, rfl⟩
          obtain ⟨t, ht⟩ : ∃ t, t = bitN b k := ⟨_, rfl⟩
          rw [← hs] at b1 k1 HE
          rw [← ht] at b2 k2 HE
          clear hqq hz hs ht
          have s3 : (0 : Int) ≤ (q : Int) := by omega
          have s4 : (q : Int) < 13 := by omega
          by_cases e1 : s = 0
          · subst e1
            have HN := Lib.hid (show scIn a b x (scTo a b x) (k + 1) = scIn a b x (scTo a b x) k by rw [HE.out]; simp only [Nat.zero_mul]; rw [show z + ((0 : Nat) : Int) = z by omega, HSS.out])
            go_wp2
            clear hpl
            go_roundw
            case rel => exact ⟨k + 1, by omega, by go_num, by rw [HN.out]; exact hr', hbel'⟩
            case measure => simp [intOf]; omega
          obtain rfl : s = 1 := by omega
          by_cases e2 : t = 0
          · subst e2
            have HN := Lib.hid (show scIn a b x (scTo a b x) (k + 1) = scIn a b x (scTo a b x) k by rw [HE.out]; simp only [Nat.mul_zero]; rw [show z + ((0 : Nat) : Int) = z by omega, HSS.out])
            clear e1
            go_wp2
            clear hpl
            go_roundw
            case rel => exact ⟨k + 1, by omega, by go_num, by rw [HN.out]; exact hr', hbel'⟩
            case measure => simp [intOf]; omega
          obtain rfl : t = 1 := by omega
          clear e1 e2
          go_wp2
          clear hpl
          go_roundw
          case rel => exact ⟨k + 1, by omega, by go_num, by rw [HE.out]; exact hr'.set q _, hbel'.setCell (Nat.le_refl _) _⟩
          case measure => simp [intOf]; omega
        · have e : k = 13 := by omega
          have HE := Lib.hid (show scIn a b x (scTo a b x) k = scTo a b (x + 1) by rw [e]; rfl)
          clear e hk
          go_wp2
          go_roundw
          case rel => exact ⟨x + 1, by omega, by go_num, by rw [← HE.out]; exact hr', hbel'⟩
          case measure => simp [intOf]; omega
    · have e : x = 13 := by omega
      have HE := Lib.hid e
      clear e
      go_wp2
      go_ret
      exact ret_own hr.own (by rw [HE.out]) hbel
theorem implSumCounts_any (w : World) (a b : Int) :
    Calls Try.prog 8 #[.int .i64 a, .int .i64 b] w fun e w' => ∃ r, e = .returned r ∧ Own w' w.heap.size r (resSumCounts a b) ∧ Below w.heap.size w w' := by
  by_cases ha : okM a = true
  · by_cases hb : okM b = true
    · have HR := Lib.hid (show resSumCounts a b = scTo a.toNat b.toNat 13 by simp [resSumCounts, okSumCounts, ha, hb])
      obtain ⟨n, rfl, hn⟩ := okM_ex ha
      obtain ⟨m, rfl, hm⟩ := okM_ex hb
      rw [HR.out]
      exact implCounts_yes n m w hn hm
    · have hb' : okM b = false := by simpa using hb
      have HR := Lib.hid (show resSumCounts a b = [] by simp [resSumCounts, okSumCounts, hb'])
      have HA := Lib.hid ha
      have HB := Lib.hid hb'
      clear ha hb hb'
      go_enter Try.func8, Try.ntmps8
      go_wp2_with fail
      refine (setOk_any _ _).mono ?_; rintro e w' ⟨rfl, hww⟩; have e2 := HA.out; rw [e2]; subst hww; clear e2
      go_wp2_with fail
      refine (setOk_any _ _).mono ?_; rintro e w' ⟨rfl, hww⟩; have e2 := HB.out; rw [e2]; subst hww; clear e2
      go_wp2_with fail
      go_ret
      exact ret_own (Own.nil _ _) HR.out (Below.refl _ _)
  · have ha' : okM a = false := by simpa using ha
    have HR := Lib.hid (show resSumCounts a b = [] by simp [resSumCounts, okSumCounts, ha'])
    have HA := Lib.hid ha'
    clear ha ha'
    go_enter Try.func8, Try.ntmps8
    go_wp2_with fail
    refine (setOk_any _ _).mono ?_; rintro e w' ⟨rfl, hww⟩; have e2 := HA.out; rw [e2]; subst hww; clear e2
    go_wp2_with fail
    go_ret
    exact ret_own (Own.nil _ _) HR.out (Below.refl _ _)
end Go.Proofs.Ytfbflokkjgbabaa
