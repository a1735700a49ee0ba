/- SumSet: the reference and the program return the same set. Conditions: none. -/
import Derived.Test.YtfbflokkjgbabaaCounts6
namespace Go.Proofs.Ytfbflokkjgbabaa
open Go.RowKit
/-- The sums of place x and the first k places. -/
def ssIn (a b x z : Nat) : Nat → Nat
  | 0 => z
  | k + 1 => if bitN a x = 1 ∧ bitN b k = 1 then ssIn a b x z k ||| pw2 (pl x k) else ssIn a b x z k
/-- The sums of the first x places. -/
def ssTo (a b : Nat) : Nat → Nat
  | 0 => 0
  | x + 1 => ssIn a b x (ssTo a b x) 13
theorem ssIn_yes {a b x z k : Nat} (h1 : bitN a x = 1) (h2 : bitN b k = 1) : ssIn a b x z (k + 1) = ssIn a b x z k ||| pw2 (pl x k) := by simp only [ssIn]; rw [if_pos ⟨h1, h2⟩]
theorem ssIn_no {a b x z k : Nat} (h : bitN a x = 0 ∨ bitN b k = 0) : ssIn a b x z (k + 1) = ssIn a b x z k := by simp only [ssIn]; rw [if_neg (by omega)]
theorem ssIn_lt {a b x z : Nat} (hz : z < 2 ^ 13) (k : Nat) : ssIn a b x z k < 2 ^ 13 := by
  induction k with
  | zero => exact hz
  | succ k ih => simp only [ssIn]; split
                 · exact or_lt _ _ _ ih (pl_lt x k)
                 · exact ih
theorem ssTo_lt (a b x : Nat) : ssTo a b x < 2 ^ 13 := by
  induction x with
  | zero => exact Nat.pow_pos (by omega)
  | succ x ih => exact ssIn_lt ih 13
/-- The set of the places with a number above 0, of the first i. -/
def orTo (l : List Int) : Nat → Nat
  | 0 => 0
  | i + 1 => if 0 < l.getD i 0 then orTo l i ||| pw2 i else orTo l i
theorem orTo_lt (l : List Int) (i : Nat) (hi : i ≤ 13) : orTo l i < 2 ^ 13 := by
  induction i with
  | zero => exact Nat.pow_pos (by omega)
  | succ i ih => simp only [orTo]; split
                 · exact or_lt _ _ _ (ih (by omega)) (by omega)
                 · exact ih (by omega)
theorem orTo_test (l : List Int) (i j : Nat) : (orTo l i).testBit j = decide (j < i ∧ 0 < l.getD j 0) := by
  induction i with
  | zero => simp [orTo]
  | succ i ih =>
    simp only [orTo]
    by_cases h : 0 < l.getD i 0
    · rw [if_pos h, test_or, ih]
      by_cases e : i = j
      · subst e; simp; simpa using h
      · by_cases h2 : j < i
        · simp [e, h2, show j < i + 1 by omega]
        · simp [e, h2, show ¬ j < i + 1 by omega]
    · rw [if_neg h, ih]
      by_cases e : i = j
      · subst e; simp; simpa using h
      · by_cases h2 : j < i
        · simp [h2, show j < i + 1 by omega]
        · simp [h2, show ¬ j < i + 1 by omega]
/-- The set has what the counts have. -/
def agree (z : Nat) (l : List Int) : Prop := ∀ j, z.testBit j = true ↔ 0 < l.getD j 0
theorem getD_set {l : List Int} {q : Nat} {x : Int} (hq : q < l.length) (j : Nat) : (l.set q x).getD j 0 = if j = q then x else l.getD j 0 := by
  simp only [List.getD_eq_getElem?_getD, List.getElem?_set]
  by_cases e : q = j
  · subst e; simp [hq]
  · rw [if_neg e, if_neg (fun h => e h.symm)]
theorem agree_in {a b x z : Nat} {l : List Int} {M : Int} (hl : l.length = 13) (hb : cntB M l) (h : agree z l) (k : Nat) : agree (ssIn a b x z k) (scIn a b x l k) := by
  induction k with
  | zero => exact h
  | succ k ih =>
    have hlen : (scIn a b x l k).length = 13 := by rw [scIn_len, hl]
    have hq := pl_lt x k
    have hbd := scIn_bd (a := a) (b := b) (x := x) hb k
    intro j
    have hg : (scIn a b x l (k + 1)).getD j 0 = if j = pl x k then (scIn a b x l k).getD (pl x k) 0 + (bitN a x * bitN b k : Nat) else (scIn a b x l k).getD j 0 := getD_set (by omega) j
    rw [hg]
    have b1 := bitN_le a x
    have b2 := bitN_le b k
    have h0 := hbd (pl x k)
    by_cases h1 : bitN a x = 1 ∧ bitN b k = 1
    · rw [ssIn_yes h1.1 h1.2, test_or, h1.1, h1.2]
      by_cases e : j = pl x k
      · rw [if_pos e, decide_eq_true e.symm, Bool.or_true]
        exact ⟨fun _ => by omega, fun _ => rfl⟩
      · rw [if_neg e, ← ih j, decide_eq_false (fun h => e h.symm), Bool.or_false]
    · have h2 : bitN a x = 0 ∨ bitN b k = 0 := by omega
      rw [ssIn_no h2, ih j]
      have h3 : bitN a x * bitN b k = 0 := by rcases h2 with h2 | h2 <;> simp [h2]
      rw [h3]
      by_cases e : j = pl x k
      · rw [if_pos e, e]; simp
      · rw [if_neg e]
theorem agree_to (a b x : Nat) : agree (ssTo a b x) (scTo a b x) := by
  induction x with
  | zero =>
    intro j
    have h0 : (List.replicate 13 (0 : Int)).getD j 0 = 0 := by
      rw [List.getD_eq_getElem?_getD, List.getElem?_replicate]; split <;> rfl
    show (0 : Nat).testBit j = true ↔ 0 < (List.replicate 13 (0 : Int)).getD j 0
    rw [h0]; simp
  | succ x ih => exact agree_in (scTo_len a b x) (scTo_bd a b x) ih 13
theorem ss_or (a b : Nat) : orTo (scTo a b 13) 13 = ssTo a b 13 := by
  apply Nat.eq_of_testBit_eq
  intro j
  rw [orTo_test, Bool.eq_iff_iff, decide_eq_true_eq, agree_to a b 13 j]
  by_cases h : j < 13
  · simp [h]
  · have : (scTo a b 13).getD j 0 = 0 := by
      rw [List.getD_eq_getElem?_getD, List.getElem?_eq_none (by rw [scTo_len]; omega)]; rfl
    rw [this]; simp
def retSumSet (a b : Int) : Int := if okSumCounts a b = true then (ssTo a.toNat b.toNat 13 : Nat) else -1
set_option maxHeartbeats 1000000 in
theorem sumSet_any (a b : Nat) (w : World) (ha : a ≤ 8191) (hb : b ≤ 8191) :
    Calls Try.prog 27 #[.int .i64 a, .int .i64 b] w fun e w' => e = .returned (.int .i64 (ssTo a b 13 : Nat)) ∧ w = w' := by
  go_enter Try.func27, Try.ntmps27
  go_wp2
  go_loop [5, 6, 7] (fun s i _ => ∃ x : Nat, x ≤ 13 ∧ i = .int .i64 x ∧ s = .int .i64 (ssTo a b x : Nat)) (fun _ i _ => 13 - (intOf i).toNat)
  case atStart => exact ⟨0, Nat.zero_le _, rfl, rfl⟩
  case round =>
    obtain ⟨x, hx, rfl, rfl⟩ := hrel
    have HZ := Lib.hid (ssTo_lt a b x)
    by_cases hlt : x < 13
    · have hlti : (x : Int) < 13 := by omega
      go_wp2
      go_loop [5, 7] (fun s i => ∃ k : Nat, k ≤ 13 ∧ i = .int .i64 k ∧ s = .int .i64 (ssIn a b x (ssTo a b x) k : Nat)) (fun _ i => 13 - (intOf i).toNat)
      case atStart => exact ⟨0, Nat.zero_le _, rfl, rfl⟩
      case round =>
        obtain ⟨k, hk, rfl, rfl⟩ := hrel
        by_cases hltk : k < 13
        · have b1 := bitN_le a x
          have b2 := bitN_le b k
          have HY := Lib.hid (@ssIn_yes a b x (ssTo a b x) k)
          have HN := Lib.hid (@ssIn_no a b x (ssTo a b x) k)
          have hzl := ssIn_lt (a := a) (b := b) (x := x) HZ.out k
          have Bx := Lib.hid (show ∀ W : World, Calls Try.prog 24 #[.int .i64 a, .int .i64 x] W fun e w' => e = .returned (.int .i64 (bitN a x : Nat)) ∧ W = w' from fun W => bit_any a x W (by omega) (by omega))
          have By := Lib.hid (show ∀ W : World, Calls Try.prog 24 #[.int .i64 b, .int .i64 k] W fun e w' => e = .returned (.int .i64 (bitN b k : Nat)) ∧ W = w' from fun W => bit_any b k W (by omega) (by omega))
          obtain ⟨p, hp⟩ : ∃ p, p = bitN a x := ⟨_, rfl⟩
          obtain ⟨q, hq⟩ : ∃ q, q = bitN b k := ⟨_, rfl⟩
          obtain ⟨z, hz⟩ : ∃ z, z = ssIn a b x (ssTo a b x) k := ⟨_, rfl⟩
          rw [← hz] at HY HN hzl ⊢
          rw [← hp] at b1 Bx HY HN
          rw [← hq] at b2 By HY HN
          clear hp hq hz
          by_cases e1 : p = 0
          · have HE := Lib.hid (HN.out (.inl e1))
            subst e1
            go_wp2_with (go_at_call 24; refine (Bx.out _).mono ?_; rintro e w' ⟨rfl, rfl⟩)
            go_round
            case rel => exact ⟨k + 1, by omega, by go_num, by rw [HE.out]⟩
            case measure => simp [intOf]; omega
          obtain rfl : p = 1 := by omega
          by_cases e2 : q = 0
          · have HE := Lib.hid (HN.out (.inr e2))
            subst e2
            clear e1
            go_wp2_with fail
            refine (Bx.out _).mono ?_; rintro e w' ⟨rfl, rfl⟩
            go_wp2_with fail
            refine (By.out _).mono ?_; rintro e w' ⟨rfl, rfl⟩
            go_wp2_with fail
            go_round
            case rel => exact ⟨k + 1, by omega, by go_num, by rw [HE.out]⟩
            case measure => simp [intOf]; omega
          obtain rfl : q = 1 := by omega
          clear e1 e2
          have HE := Lib.hid (HY.out rfl rfl)
          have ht := pl_lt x k
          have hpl : ((x : Int) + (k : Int)) % 13 = ((pl x k : Nat) : Int) := rfl
          have hpb := pw2_bd (show pl x k ≤ 20 by omega)
          have hz20 : z ≤ 8191 := by have e : (2 : Nat) ^ 13 = 8192 := by decide
                                     omega
          have hp20 : pw2 (pl x k) ≤ 4096 := Nat.le_trans (pw2_mono (show pl x k ≤ 12 by omega)) (by decide)
          have ko := or20 z (pw2 (pl x k)) (by omega) (by omega)
          clear hzl hpb
          obtain ⟨t, htt⟩ : ∃ t, t = pl x k := ⟨_, rfl⟩
          rw [← htt] at ht hpl HE ko hp20
          clear htt
          have Pt := Lib.hid (show ∀ W : World, Calls Try.prog 34 #[.int .i64 t] W fun e w' => e = .returned (.int .i64 (pw2 t : Nat)) ∧ W = w' from fun W => power2_any t W (by omega))
          go_wp2_with fail
          refine (Bx.out _).mono ?_; rintro e w' ⟨rfl, rfl⟩
          go_wp2_with fail
          refine (By.out _).mono ?_; rintro e w' ⟨rfl, rfl⟩
          go_wp2_with fail
          refine (Pt.out _).mono ?_; rintro e w' ⟨rfl, rfl⟩
          go_wp2_with fail
          clear hpl ko
          go_round
          case rel => exact ⟨k + 1, by omega, by go_num, by rw [HE.out]⟩
          case measure => simp [intOf]; omega
        · have e : k = 13 := by omega
          have HE := Lib.hid (show ssIn a b x (ssTo a b x) k = ssTo a b (x + 1) by rw [e]; rfl)
          clear e hk
          go_wp2
          go_round
          case rel => exact ⟨x + 1, by omega, by go_num, by rw [← HE.out]⟩
          case measure => simp [intOf]; omega
    · have e : x = 13 := by omega
      have HE := Lib.hid e
      clear e
      go_wp2
      go_ret
      exact ⟨ret_int (by rw [HE.out]), rfl⟩
theorem specSumSet_any (w : World) (a b : Int) :
    Calls Try.prog 15 #[.int .i64 a, .int .i64 b] w fun e w' => e = .returned (.int .i64 (retSumSet a b)) ∧ w = w' := by
  by_cases ha : okM a = true
  · by_cases hb : okM b = true
    · have HR := Lib.hid (show retSumSet a b = (ssTo a.toNat b.toNat 13 : Nat) by simp [retSumSet, okSumCounts, ha, hb])
      obtain ⟨n, rfl, hn⟩ := okM_ex ha
      obtain ⟨m, rfl, hm⟩ := okM_ex hb
      have HA := Lib.hid ha
      have HB := Lib.hid hb
      clear ha hb
      go_enter Try.func15, Try.ntmps15
      go_wp2_with fail
      refine (validMarks_any _ _).mono ?_; rintro e w' ⟨rfl, hww⟩; have e2 := HA.out; rw [e2]; subst hww; clear e2
      go_wp2_with fail
      refine (validMarks_any _ _).mono ?_; rintro e w' ⟨rfl, hww⟩; have e2 := HB.out; rw [e2]; subst hww; clear e2
      go_wp2_with fail
      refine (sumSet_any n m _ hn hm).mono ?_; rintro e w' ⟨rfl, rfl⟩
      go_wp2_with fail
      go_ret
      exact ⟨ret_int (by rw [HR.out]; rfl), rfl⟩
    · have hb' : okM b = false := by simpa using hb
      have HR := Lib.hid (show retSumSet a b = -1 by simp [retSumSet, okSumCounts, hb'])
      have HA := Lib.hid ha
      have HB := Lib.hid hb'
      clear ha hb hb'
      go_enter Try.func15, Try.ntmps15
      go_wp2_with fail
      refine (validMarks_any _ _).mono ?_; rintro e w' ⟨rfl, hww⟩; have e2 := HA.out; rw [e2]; subst hww; clear e2
      go_wp2_with fail
      refine (validMarks_any _ _).mono ?_; rintro e w' ⟨rfl, hww⟩; have e2 := HB.out; rw [e2]; subst hww; clear e2
      go_wp2_with fail
      go_ret
      exact ⟨ret_int HR.out.symm, rfl⟩
  · have ha' : okM a = false := by simpa using ha
    have HR := Lib.hid (show retSumSet a b = -1 by simp [retSumSet, okSumCounts, ha'])
    have HA := Lib.hid ha'
    clear ha ha'
    go_enter Try.func15, Try.ntmps15
    go_wp2_with fail
    refine (validMarks_any _ _).mono ?_; rintro e w' ⟨rfl, hww⟩; have e2 := HA.out; rw [e2]; subst hww; clear e2
    go_wp2_with fail
    go_ret
    exact ⟨ret_int HR.out.symm, rfl⟩
set_option maxHeartbeats 1000000 in
theorem implSumSet_any (w : World) (a b : Int) :
    Calls Try.prog 11 #[.int .i64 a, .int .i64 b] w fun e w' => e = .returned (.int .i64 (retSumSet a b)) ∧ Below w.heap.size w w' := by
  by_cases ha : okM a = true
  · by_cases hb : okM b = true
    · have HR := Lib.hid (show retSumSet a b = (orTo (scTo a.toNat b.toNat 13) 13 : Nat) by rw [ss_or]; simp [retSumSet, okSumCounts, ha, hb])
      have HCN := Lib.hid (show resSumCounts a b = scTo a.toNat b.toNat 13 by simp [resSumCounts, okSumCounts, ha, hb])
      have HL := Lib.hid (scTo_len a.toNat b.toNat 13)
      have HCB := Lib.hid (scTo_bd a.toNat b.toNat 13)
      have HA := Lib.hid ha
      have HB := Lib.hid hb
      obtain ⟨S, hS⟩ : ∃ S, S = scTo a.toNat b.toNat 13 := ⟨_, rfl⟩
      rw [← hS] at HR HCN HL HCB
      clear ha hb hS
      go_enter Try.func11, Try.ntmps11
      go_wp2_with fail
      refine (setOk_any _ _).mono ?_; rintro e w' ⟨rfl, hww⟩; have e2 := HA.out; rw [e2]; subst hww; clear e2
      go_wp2_with fail
      refine (setOk_any _ _).mono ?_; rintro e w' ⟨rfl, hww⟩; have e2 := HB.out; rw [e2]; subst hww; clear e2
      go_wp2_with fail
      refine (implSumCounts_any _ a b).mono ?_; rintro e w1 ⟨r, rfl, hr, hb⟩
      rw [HCN.out] at hr
      have hrd := Lib.hid hr.rd
      clear hr
      obtain ⟨a1, c1, rfl, hq1, _, hq3⟩ := hrd.out
      have HQ := Lib.hid hq3
      rw [HL.out] at hq1 ⊢
      clear hq3 hrd
      go_wp2
      go_loop [5, 6, 7, 20] (fun s _ _ i => ∃ k : Nat, k ≤ 13 ∧ i = .int .i64 k ∧ s = .int .i64 (orTo S k : Nat)) (fun _ _ _ i => 13 - (intOf i).toNat)
      case atStart => exact ⟨0, Nat.zero_le _, rfl, rfl⟩
      case round =>
        obtain ⟨k, hk, rfl, rfl⟩ := hrel
        have hzl := orTo_lt S k hk
        have hz20 : orTo S k ≤ 8191 := by have e : (2 : Nat) ^ 13 = 8192 := by decide
                                          omega
        clear hzl
        by_cases hlt : k < 13
        · obtain ⟨b', o, rfl, hcell⟩ := HQ.out.resolve_left (by intro hh; have := HL.out; rw [hh] at this; simp at this)
          have h1 := hcell k (by rw [HL.out]; exact hlt)
          clear hcell HQ
          have HO := Lib.hid (show orTo S (k + 1) = if 0 < S.getD k 0 then orTo S k ||| pw2 k else orTo S k from rfl)
          obtain ⟨x, hx⟩ : ∃ x, x = S.getD k 0 := ⟨_, rfl⟩
          rw [← hx] at h1 HO
          clear hx
          have hp20 : pw2 k ≤ 4096 := Nat.le_trans (pw2_mono (show k ≤ 12 by omega)) (by decide)
          have ko := or20 (orTo S k) (pw2 k) (by omega) (by omega)
          have hsh : wrap64 (2 ^ k) = ((pw2 k : Nat) : Int) := shl_one64 k (by omega)
          by_cases h0 : 0 < x
          · have HE := Lib.hid (HO.out.trans (if_pos h0))
            go_wp2
            clear ko hsh
            go_round
            case rel => exact ⟨k + 1, by omega, by go_num, by rw [HE.out]⟩
            case measure => simp [intOf]; omega
          · have HE := Lib.hid (HO.out.trans (if_neg h0))
            go_wp2
            clear ko hsh
            go_round
            case rel => exact ⟨k + 1, by omega, by go_num, by rw [HE.out]⟩
            case measure => simp [intOf]; omega
        · have e : k = 13 := by omega
          have HE := Lib.hid e
          clear e
          go_wp2
          go_ret
          exact ⟨ret_int (by rw [HR.out, HE.out]), hb⟩
    · have hb' : okM b = false := by simpa using hb
      have HR := Lib.hid (show retSumSet a b = -1 by simp [retSumSet, okSumCounts, hb'])
      have HA := Lib.hid ha
      have HB := Lib.hid hb'
      clear ha hb hb'
      go_enter Try.func11, Try.ntmps11
      go_wp2_with fail
      refine (setOk_any _ _).mono ?_; rintro e w' ⟨rfl, hww⟩; have e2 := HA.out; rw [e2]; subst hww; clear e2
      go_wp2_with fail
      refine (setOk_any _ _).mono ?_; rintro e w' ⟨rfl, hww⟩; have e2 := HB.out; rw [e2]; subst hww; clear e2
      go_wp2_with fail
      go_ret
      exact ⟨ret_int HR.out.symm, Below.refl _ _⟩
  · have ha' : okM a = false := by simpa using ha
    have HR := Lib.hid (show retSumSet a b = -1 by simp [retSumSet, okSumCounts, ha'])
    have HA := Lib.hid ha'
    clear ha ha'
    go_enter Try.func11, Try.ntmps11
    go_wp2_with fail
    refine (setOk_any _ _).mono ?_; rintro e w' ⟨rfl, hww⟩; have e2 := HA.out; rw [e2]; subst hww; clear e2
    go_wp2_with fail
    go_ret
    exact ⟨ret_int HR.out.symm, Below.refl _ _⟩
end Go.Proofs.Ytfbflokkjgbabaa
