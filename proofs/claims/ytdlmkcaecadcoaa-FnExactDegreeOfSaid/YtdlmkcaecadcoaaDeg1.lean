/- DegreeOf: the reference and the program return the same number. Conditions: at most 1048576 numbers. -/
import Derived.Test.YtdlmkcaecadcoaaEdge1
namespace Go.Proofs.Ytdlmkcaecadcoaa
open Go.RowKit
/-- The last index with a number other than 0, of the first k. -/
def degTo (l : List Int) : Nat → Int
  | 0 => -1
  | k + 1 => if l.getD k 0 = 0 then degTo l k else (k : Int)
theorem degTo_bd (l : List Int) (k : Nat) : -1 ≤ degTo l k ∧ degTo l k < k := by
  induction k with
  | zero => simp [degTo]
  | succ k ih => simp only [degTo]; split <;> omega
theorem degTo_zero {l : List Int} {k : Nat} (h : l.getD k 0 = 0) : degTo l (k + 1) = degTo l k := by simp only [degTo]; rw [if_pos h]
theorem degTo_hit {l : List Int} {k : Nat} (h : l.getD k 0 ≠ 0) : degTo l (k + 1) = (k : Int) := by simp only [degTo]; rw [if_neg h]
def retDegreeOf (zs : List Int) : Int := if vrow zs = true then degTo (edgeTo zs zs.length) zs.length else -2
set_option maxHeartbeats 800000 in
theorem specDegreeOf_any (w : World) (v : Value) (zs : List Int) (h : Rd w v zs) (hl : zs.length ≤ 1048576) :
    Calls Try.prog 29 #[v] w fun e w' => e = .returned (.int .i64 (retDegreeOf zs)) ∧ Below w.heap.size w w' := by
  by_cases hv : vrow zs = true
  · have HR := Lib.hid (show retDegreeOf zs = _ by rw [retDegreeOf, if_pos hv])
    have HV := Lib.hid hv
    have hl16 := vrow_len hv
    go_enter Try.func29, Try.ntmps29
    go_wp2_with (first | (go_at_call 43; refine (validRow_any _ _ zs h hl).mono ?_; rintro e w' ⟨rfl, rfl⟩) | (go_at_call 47; refine (edge_any _ _ zs h HV.out).mono ?_; rintro e w1 ⟨r, rfl, hr, hb⟩; have hrd := Lib.hid hr.rd; clear hr; obtain ⟨a1, c1, rfl, hq1, hq2, hq3⟩ := hrd.out; have HQ := Lib.hid hq3; clear hq3 hq2; have hll := edgeTo_len zs zs.length; obtain ⟨m, hm⟩ : ∃ m, m = (edgeTo zs zs.length).length := ⟨_, rfl⟩; rw [← hm] at hll hq1 hrd ⊢; have hm1 : m ≤ 16 := (by omega); have HM := Lib.hid hm; have HLL := Lib.hid hll; clear hm hll))
    go_loop [4, 5] (fun d i => ∃ k : Nat, k ≤ m ∧ i = .int .i64 k ∧ d = .int .i64 (degTo (edgeTo zs zs.length) k)) (fun _ i => m - (intOf i).toNat)
    case atStart => exact ⟨0, Nat.zero_le _, rfl, rfl⟩
    case round =>
      obtain ⟨k, hk, rfl, rfl⟩ := hrel
      by_cases hlt : k < m
      · obtain ⟨b, o, rfl, hcell⟩ := HQ.out.resolve_left (by intro h0; have := HM.out; rw [h0] at this; simp at this; omega)
        have h1 := hcell k (by rw [← HM.out]; exact hlt)
        clear hcell HQ
        obtain ⟨x, hx⟩ : ∃ x, x = (edgeTo zs zs.length).getD k 0 := ⟨_, rfl⟩
        rw [← hx] at h1
        have HX := Lib.hid hx
        clear hx
        by_cases h0 : x = 0
        · have e0 := degTo_zero (HX.out.symm.trans h0)
          have E0 := Lib.hid e0
          clear e0
          subst h0
          go_wp2
          go_round
          case rel => exact ⟨k + 1, by omega, by go_num, by rw [E0.out]⟩
          case measure => simp [intOf]; omega
        · have e0 := degTo_hit (show (edgeTo zs zs.length).getD k 0 ≠ 0 by rw [← HX.out]; exact h0)
          have E0 := Lib.hid e0
          have hne : (x != 0) = true := by simp [h0]
          clear e0 h0
          go_wp2
          go_round
          case rel => exact ⟨k + 1, by omega, by go_num, by rw [E0.out]⟩
          case measure => simp [intOf]; omega
      · have e : k = m := by omega
        have E := Lib.hid (e.trans HLL.out)
        clear e
        go_wp2
        go_ret
        exact ⟨ret_int (by rw [HR.out, E.out]), hb⟩
  · have hv' : vrow zs = false := by simpa using hv
    have HR := Lib.hid (show retDegreeOf zs = -2 by rw [retDegreeOf, if_neg hv])
    clear hv
    go_enter Try.func29, Try.ntmps29
    go_wp2_with (go_at_call 43; refine (validRow_any _ _ zs h hl).mono ?_; rintro e w' ⟨rfl, rfl⟩)
    go_ret
    exact ⟨ret_int HR.out.symm, Below.refl _ _⟩
set_option maxHeartbeats 800000 in
theorem implDegreeOf_any (w : World) (v : Value) (zs : List Int) (h : Rd w v zs) (hl : zs.length ≤ 1048576) :
    Calls Try.prog 30 #[v] w fun e w' => e = .returned (.int .i64 (retDegreeOf zs)) ∧ Below w.heap.size w w' := by
  by_cases hv : vrow zs = true
  · have HR := Lib.hid (show retDegreeOf zs = _ by rw [retDegreeOf, if_pos hv])
    have HV := Lib.hid hv
    have hl16 := vrow_len hv
    go_enter Try.func30, Try.ntmps30
    go_wp2_with (first | (go_at_call 17; refine (implValidRow_any _ _ zs h hl).mono ?_; rintro e w' ⟨rfl, rfl⟩) | (go_at_call 26; refine (implEdge_yes _ _ zs h HV.out).mono ?_; rintro e w1 ⟨r, rfl, hr, hb⟩; have hrd := Lib.hid hr.rd; clear hr; obtain ⟨a1, c1, rfl, hq1, hq2, hq3⟩ := hrd.out; have HQ := Lib.hid hq3; clear hq3 hq2; have hll := edgeTo_len zs zs.length; obtain ⟨m, hm⟩ : ∃ m, m = (edgeTo zs zs.length).length := ⟨_, rfl⟩; rw [← hm] at hll hq1 hrd ⊢; have hm1 : m ≤ 16 := (by omega); have HM := Lib.hid hm; have HLL := Lib.hid hll; clear hm hll))
    go_loop [4] (fun i => ∃ k : Nat, k ≤ m ∧ i = .int .i64 ((k : Int) - 1) ∧ degTo (edgeTo zs zs.length) k = degTo (edgeTo zs zs.length) m) (fun i => (intOf i + 1).toNat)
    case atStart => exact ⟨m, Nat.le_refl _, rfl, rfl⟩
    case round =>
      obtain ⟨k, hk, rfl, hd⟩ := hrel
      have HD := Lib.hid hd
      clear hd
      cases k with
      | zero =>
        rw [show (((0 : Nat) : Int) - 1) = -1 from rfl]
        go_wp2
        go_ret
        exact ⟨ret_int (by rw [HR.out.trans (congrArg (degTo (edgeTo zs zs.length)) HLL.out.symm), ← HD.out]; rfl), hb⟩
      | succ k =>
        rw [show (((k + 1 : Nat) : Int) - 1) = (k : Int) by omega]
        obtain ⟨b, o, rfl, hcell⟩ := HQ.out.resolve_left (by intro h0; have := HM.out; rw [h0] at this; simp at this; omega)
        have h1 := hcell k (by rw [← HM.out]; omega)
        clear hcell HQ
        have s1 : (k : Int) < (m : Int) := by omega
        obtain ⟨x, hx⟩ : ∃ x, x = (edgeTo zs zs.length).getD k 0 := ⟨_, rfl⟩
        rw [← hx] at h1
        have HX := Lib.hid hx
        clear hx
        by_cases h0 : x = 0
        · have E0 := Lib.hid (degTo_zero (HX.out.symm.trans h0))
          subst h0
          go_wp2
          go_round
          case rel => exact ⟨k, by omega, rfl, by rw [← E0.out, HD.out]⟩
          case measure => simp [intOf]
        · have E0 := Lib.hid (degTo_hit (show (edgeTo zs zs.length).getD k 0 ≠ 0 by rw [← HX.out]; exact h0))
          have hne : (x != 0) = true := by simp [h0]
          clear h0
          go_wp2
          go_ret
          exact ⟨ret_int (by rw [HR.out.trans (congrArg (degTo (edgeTo zs zs.length)) HLL.out.symm), ← HD.out, E0.out]), hb⟩
  · have hv' : vrow zs = false := by simpa using hv
    have HR := Lib.hid (show retDegreeOf zs = -2 by rw [retDegreeOf, if_neg hv])
    clear hv
    go_enter Try.func30, Try.ntmps30
    go_wp2_with (go_at_call 17; refine (implValidRow_any _ _ zs h hl).mono ?_; rintro e w' ⟨rfl, rfl⟩)
    go_ret
    exact ⟨ret_int HR.out.symm, Below.refl _ _⟩
end Go.Proofs.Ytdlmkcaecadcoaa
