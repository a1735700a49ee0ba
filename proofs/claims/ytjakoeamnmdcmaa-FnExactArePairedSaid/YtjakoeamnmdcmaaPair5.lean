/- ArePaired: the reference and the program answer the same. Conditions: at most 1048576 numbers. -/
import Derived.Test.YtjakoeamnmdcmaaQuiet5
namespace Go.Proofs.Ytjakoeamnmdcmaa
open Go.RowKit
/-- The first k sums at the same place, but for the first one, are 0. -/
def prB (x y : List Int) (k : Nat) : Bool := (List.range k).all fun j => decide (x.getD (j + 1) 0 + y.getD (j + 1) 0 = 0)
theorem prB_snoc {x y : List Int} {k : Nat} (h : prB x y k = true) (h0 : x.getD (k + 1) 0 + y.getD (k + 1) 0 = 0) : prB x y (k + 1) = true := by
  simp only [prB, List.range_succ, List.all_append, Bool.and_eq_true] at h ⊢
  exact ⟨h, by simp only [List.all_cons, List.all_nil, Bool.and_true]; exact decide_eq_true h0⟩
theorem prB_bad {x y : List Int} {k n : Nat} (hk : k < n) (h0 : x.getD (k + 1) 0 + y.getD (k + 1) 0 ≠ 0) : prB x y n = false := by
  rw [Bool.eq_false_iff]
  intro ha
  simp only [prB, List.all_eq_true, decide_eq_true_eq] at ha
  exact h0 (ha k (by simpa using hk))
def okArePaired (a b : List Int) : Bool := oneRow a && oneRow b && decide (a.length = b.length ∧ 1 ≤ a.length)
def retArePaired (a b : List Int) : Bool := okArePaired a b && prB (seTo a a.length) (seTo b b.length) (a.length - 1)
theorem quiet_cell {w : World} (m : Nat) (p : Addr) : (w.drewN m).cell? p = w.cell? p := rfl
theorem below_drewN {B : Nat} {w w' : World} (h : Below B w w') (n : Nat) : Below B w (w'.drewN n) := ⟨h.os, h.tape, h.output, h.size, h.block⟩
set_option maxHeartbeats 1600000 in
theorem pair_any (w : World) (v0 : Value) (z0 : List Int) (h0 : Rd w v0 z0) (l0 : z0.length ≤ 1048576) (v1 : Value) (z1 : List Int) (h1 : Rd w v1 z1) (l1 : z1.length ≤ 1048576) :
    Calls Try.prog 36 #[v0, v1] w fun e w' => e = .returned (.bool (retArePaired z0 z1)) ∧ Below w.heap.size w w' := by
  by_cases g0 : oneRow z0 = true
  · by_cases g1 : oneRow z1 = true
    · by_cases hl : z0.length = z1.length
      · by_cases n1 : 1 ≤ z0.length
        · have HR := Lib.hid (show retArePaired z0 z1 = prB (seTo z0 z0.length) (seTo z1 z1.length) (z0.length - 1) by simp [retArePaired, okArePaired, g0, g1, hl]; omega)
          have v0' : vrow z0 = true := by simp only [oneRow, Bool.and_eq_true] at g0; exact g0.2
          have v1' : vrow z1 = true := by simp only [oneRow, Bool.and_eq_true] at g1; exact g1.2
          have HO0 := Lib.hid (show on1 z0 = true by simp only [oneRow, Bool.and_eq_true] at g0; exact g0.1)
          have HO1 := Lib.hid (show on1 z1 = true by simp only [oneRow, Bool.and_eq_true] at g1; exact g1.1)
          have n16 := vrow_len v0'
          have m16 := vrow_len v1'
          have HBX := Lib.hid (seTo_bd (vrow_all v0') n16 z0.length (Nat.le_refl _))
          have HBY := Lib.hid (seTo_bd (vrow_all v1') m16 z1.length (Nat.le_refl _))
          have hXl : (seTo z0 z0.length).length = z0.length := seTo_len _ _
          have hYl : (seTo z1 z1.length).length = z1.length := seTo_len _ _
          have HSX := Lib.hid (show resSelfOf z0 = seTo z0 z0.length by rw [resSelfOf, if_pos v0'])
          have HSY := Lib.hid (show resSelfOf z1 = seTo z1 z1.length by rw [resSelfOf, if_pos v1'])
          have HV0 := Lib.hid v0'
          have HV1 := Lib.hid v1'
          have HG0 := Lib.hid g0
          have HG1 := Lib.hid g1
          have L0 := Lib.hid l0
          have L1 := Lib.hid l1
          have e0 := h0
          have e1 := h1
          obtain ⟨a0, c0, rfl, hlc0, _, _⟩ := e0
          obtain ⟨a1, c1, rfl, hlc1, _, _⟩ := e1
          obtain ⟨X, hX⟩ : ∃ S, S = seTo z0 z0.length := ⟨_, rfl⟩
          obtain ⟨Y, hY⟩ : ∃ S, S = seTo z1 z1.length := ⟨_, rfl⟩
          rw [← hX] at HR HBX hXl HSX
          rw [← hY] at HR HBY hYl HSY
          have HX0 := Lib.hid hX
          have HY0 := Lib.hid hY
          rw [← hl] at h1 hlc1 hYl ⊢
          obtain ⟨n, hn⟩ : ∃ n, n = z0.length := ⟨_, rfl⟩
          rw [← hn] at h0 h1 hlc0 hlc1 HR hXl hYl n16 n1 ⊢
          have H0 := Lib.hid h0
          have H1 := Lib.hid h1
          have HXl := Lib.hid hXl
          have HYl := Lib.hid hYl
          have z5 : ((n : Int) == 0) = false := by simp; omega
          clear h0 h1 hX hY hXl hYl hl hn l0 l1 v0' v1' g0 g1 m16
          go_enter Try.func36, Try.ntmps36
          go_wp2_with fail
          refine (onlySigns_any _ _ z0 H0.out L0.out).mono ?_; rintro e w' ⟨rfl, hww⟩; have e2 := HG0.out; rw [e2]; subst hww; clear e2
          go_wp2_with fail
          refine (onlySigns_any _ _ z1 H1.out L1.out).mono ?_; rintro e w' ⟨rfl, hww⟩; have e2 := HG1.out; rw [e2]; subst hww; clear e2
          go_wp2_with fail
          refine (itself_any _ _ z0 H0.out HV0.out).mono ?_; rintro e w1 ⟨r, rfl, hr, hb1⟩
          rw [← HX0.out] at hr
          go_wp2_with fail
          refine (itself_any _ _ z1 (H1.out.below hb1) HV1.out).mono ?_; rintro e w2 ⟨p, rfl, hp, hb2⟩
          rw [← HY0.out] at hp
          have hb : Below w.heap.size w w2 := hb1.trans (hb2.mono hb1.size)
          have hr2 := (hr.keep (Below.grownBy hb2)).rd
          have hp2 := hp.rd
          clear hr hp hb1 hb2
          obtain ⟨a2, c2, rfl, hq1, _, hq3⟩ := hr2
          obtain ⟨a3, c3, rfl, hq4, _, hq6⟩ := hp2
          rw [HXl.out] at hq1 ⊢
          rw [HYl.out] at hq4 ⊢
          have HQ := Lib.hid hq3
          have HP := Lib.hid hq6
          clear hq3 hq6
          go_wp2
          go_loopw [7] (fun i wr => ∃ k q : Nat, k + 1 ≤ n ∧ i = .int .i64 ((k : Int) + 1) ∧ prB X Y k = true ∧ wr = w2.drewN q) (fun i _ => n - (intOf i).toNat)
          case atStart => exact ⟨0, 0, by omega, rfl, rfl, rfl⟩
          case round =>
            obtain ⟨k, q, hk, rfl, ha, rfl⟩ := hrel
            have HA := Lib.hid ha
            clear ha
            by_cases hlt : k + 1 < n
            · obtain ⟨b, o, rfl, hcell⟩ := HQ.out.resolve_left (by intro hh; have := HXl.out; rw [hh] at this; simp at this; omega)
              obtain ⟨b', o', rfl, hcell'⟩ := HP.out.resolve_left (by intro hh; have := HYl.out; rw [hh] at this; simp at this; omega)
              have h1 : w2.cell? ⟨b, o + (k + 1), none⟩ = some (.int .i64 (X.getD (k + 1) 0)) := hcell (k + 1) (by rw [HXl.out]; exact hlt)
              have h2 : w2.cell? ⟨b', o' + (k + 1), none⟩ = some (.int .i64 (Y.getD (k + 1) 0)) := hcell' (k + 1) (by rw [HYl.out]; exact hlt)
              clear hcell HQ hcell' HP
              have bx := HBX.out (k + 1)
              have by' := HBY.out (k + 1)
              obtain ⟨x, hx⟩ : ∃ x, x = X.getD (k + 1) 0 := ⟨_, rfl⟩
              obtain ⟨y, hy⟩ : ∃ y, y = Y.getD (k + 1) 0 := ⟨_, rfl⟩
              rw [← hx] at h1 bx
              rw [← hy] at h2 by'
              have HX := Lib.hid hx
              have HY := Lib.hid hy
              clear hx hy
              have s0 : (0 : Int) ≤ (k : Int) + 1 := by omega
              have s1 : (k : Int) + 1 < (n : Int) := by omega
              have s3 : ((k : Int) + 1).toNat = k + 1 := by omega
              have s6 : IntKind.i64.wrap (x + y) = x + y := IntWalk.i64_in _ (by omega)
              by_cases he : x + y = 0
              · have HO := Lib.hid (prB_snoc HA.out (by rw [← HX.out, ← HY.out]; exact he))
                have hne : (x + y != 0) = false := by simp [he]
                clear he
                go_wp2
                go_quiet (fail)
                clear s3 s6
                go_wp2
                go_roundw
                case rel => exact ⟨k + 1, q + nq, by omega, by go_num, HO.out, rfl⟩
                case measure => simp [intOf]; omega
              · have HO := Lib.hid (prB_bad (x := X) (y := Y) (show k < n - 1 by omega) (by rw [← HX.out, ← HY.out]; exact he))
                have hne : (x + y != 0) = true := by simp [he]
                clear he
                go_wp2
                go_quiet (fail)
                clear s3 s6
                go_wp2
                go_ret
                exact ⟨ret_bool (by rw [HR.out, HO.out]), below_drewN (below_drewN hb q) nq⟩
            · have e : k = n - 1 := by omega
              have HO := Lib.hid (show prB X Y (n - 1) = true by rw [← e]; exact HA.out)
              clear e
              go_wp2
              go_ret
              exact ⟨ret_bool (by rw [HR.out, HO.out]), below_drewN hb q⟩
        · have HR := Lib.hid (show retArePaired z0 z1 = false by simp [retArePaired, okArePaired, n1])
          have hz : z0.length = 0 := by omega
          have HG0 := Lib.hid g0
          have HG1 := Lib.hid g1
          have L0 := Lib.hid l0
          have L1 := Lib.hid l1
          have e0 := h0
          have e1 := h1
          obtain ⟨a0, c0, rfl, _, _, _⟩ := e0
          obtain ⟨a1, c1, rfl, _, _, _⟩ := e1
          rw [← hl] at h1 ⊢
          rw [hz] at h0 h1 ⊢
          have H0 := Lib.hid h0
          have H1 := Lib.hid h1
          clear h0 h1 hl n1 l0 l1 g0 g1 hz
          go_enter Try.func36, Try.ntmps36
          go_wp2_with fail
          refine (onlySigns_any _ _ z0 H0.out L0.out).mono ?_; rintro e w' ⟨rfl, hww⟩; have e2 := HG0.out; rw [e2]; subst hww; clear e2
          go_wp2_with fail
          refine (onlySigns_any _ _ z1 H1.out L1.out).mono ?_; rintro e w' ⟨rfl, hww⟩; have e2 := HG1.out; rw [e2]; subst hww; clear e2
          go_wp2_with fail
          go_ret
          exact ⟨ret_bool HR.out.symm, Below.refl _ _⟩
      · have HR := Lib.hid (show retArePaired z0 z1 = false by simp [retArePaired, okArePaired, hl])
        have hl1 : ((z0.length : Int) != (z1.length : Int)) = true := by simp; omega
        have HG0 := Lib.hid g0
        have HG1 := Lib.hid g1
        have L0 := Lib.hid l0
        have L1 := Lib.hid l1
        have e0 := h0
        have e1 := h1
        obtain ⟨a0, c0, rfl, _, _, _⟩ := e0
        obtain ⟨a1, c1, rfl, _, _, _⟩ := e1
        obtain ⟨n, hn⟩ : ∃ n, n = z0.length := ⟨_, rfl⟩
        obtain ⟨m, hm⟩ : ∃ n, n = z1.length := ⟨_, rfl⟩
        rw [← hn] at h0 hl1 ⊢
        rw [← hm] at h1 hl1 ⊢
        have H0 := Lib.hid h0
        have H1 := Lib.hid h1
        clear hn hm h0 h1 hl l0 l1 g0 g1
        go_enter Try.func36, Try.ntmps36
        go_wp2_with fail
        refine (onlySigns_any _ _ z0 H0.out L0.out).mono ?_; rintro e w' ⟨rfl, hww⟩; have e2 := HG0.out; rw [e2]; subst hww; clear e2
        go_wp2_with fail
        refine (onlySigns_any _ _ z1 H1.out L1.out).mono ?_; rintro e w' ⟨rfl, hww⟩; have e2 := HG1.out; rw [e2]; subst hww; clear e2
        go_wp2_with fail
        go_ret
        exact ⟨ret_bool HR.out.symm, Below.refl _ _⟩
    · have g1' : oneRow z1 = false := by simpa using g1
      have HR := Lib.hid (show retArePaired z0 z1 = false by simp [retArePaired, okArePaired, g1'])
      have HG0 := Lib.hid g0
      have HG1 := Lib.hid g1'
      clear g1 g1' g0
      go_enter Try.func36, Try.ntmps36
      go_wp2_with fail
      refine (onlySigns_any _ _ z0 h0 l0).mono ?_; rintro e w' ⟨rfl, hww⟩; have e2 := HG0.out; rw [e2]; subst hww; clear e2
      go_wp2_with fail
      refine (onlySigns_any _ _ z1 h1 l1).mono ?_; rintro e w' ⟨rfl, hww⟩; have e2 := HG1.out; rw [e2]; subst hww; clear e2
      go_wp2_with fail
      go_ret
      exact ⟨ret_bool HR.out.symm, Below.refl _ _⟩
  · have g0' : oneRow z0 = false := by simpa using g0
    have HR := Lib.hid (show retArePaired z0 z1 = false by simp [retArePaired, okArePaired, g0'])
    have HG0 := Lib.hid g0'
    clear g0 g0'
    go_enter Try.func36, Try.ntmps36
    go_wp2_with fail
    refine (onlySigns_any _ _ z0 h0 l0).mono ?_; rintro e w' ⟨rfl, hww⟩; have e2 := HG0.out; rw [e2]; subst hww; clear e2
    go_wp2_with fail
    go_ret
    exact ⟨ret_bool HR.out.symm, Below.refl _ _⟩
theorem specArePaired_any (w : World) (v0 : Value) (z0 : List Int) (h0 : Rd w v0 z0) (l0 : z0.length ≤ 1048576) (v1 : Value) (z1 : List Int) (h1 : Rd w v1 z1) (l1 : z1.length ≤ 1048576) :
    Calls Try.prog 18 #[v0, v1] w fun e w' => e = .returned (.bool (retArePaired z0 z1)) ∧ Below w.heap.size w w' := by
  go_enter Try.func18, Try.ntmps18
  go_wp2_with fail
  refine (pair_any _ _ z0 h0 l0 _ z1 h1 l1).mono ?_; rintro e w' ⟨rfl, hb⟩
  go_wp2_with fail
  go_ret
  exact ⟨rfl, hb⟩
set_option maxHeartbeats 1600000 in
theorem implPair_yes (w : World) (v0 : Value) (z0 : List Int) (h0 : Rd w v0 z0) (l0 : z0.length ≤ 1048576) (v1 : Value) (z1 : List Int) (h1 : Rd w v1 z1) (l1 : z1.length ≤ 1048576) (g0 : oneRow z0 = true) (g1 : oneRow z1 = true) (hl : z0.length = z1.length) (n1 : 1 ≤ z0.length) :
    Calls Try.prog 19 #[v0, v1] w fun e w' => e = .returned (.bool (retArePaired z0 z1)) ∧ Below w.heap.size w w' := by
  have HR := Lib.hid (show retArePaired z0 z1 = prB (seTo z0 z0.length) (seTo z1 z1.length) (z0.length - 1) by simp [retArePaired, okArePaired, g0, g1, hl]; omega)
  have v0' : vrow z0 = true := by simp only [oneRow, Bool.and_eq_true] at g0; exact g0.2
  have v1' : vrow z1 = true := by simp only [oneRow, Bool.and_eq_true] at g1; exact g1.2
  have HO0 := Lib.hid (show on1 z0 = true by simp only [oneRow, Bool.and_eq_true] at g0; exact g0.1)
  have HO1 := Lib.hid (show on1 z1 = true by simp only [oneRow, Bool.and_eq_true] at g1; exact g1.1)
  have n16 := vrow_len v0'
  have m16 := vrow_len v1'
  have HBX := Lib.hid (seTo_bd (vrow_all v0') n16 z0.length (Nat.le_refl _))
  have HBY := Lib.hid (seTo_bd (vrow_all v1') m16 z1.length (Nat.le_refl _))
  have hXl : (seTo z0 z0.length).length = z0.length := seTo_len _ _
  have hYl : (seTo z1 z1.length).length = z1.length := seTo_len _ _
  have HSX := Lib.hid (show resSelfOf z0 = seTo z0 z0.length by rw [resSelfOf, if_pos v0'])
  have HSY := Lib.hid (show resSelfOf z1 = seTo z1 z1.length by rw [resSelfOf, if_pos v1'])
  have HV0 := Lib.hid v0'
  have HV1 := Lib.hid v1'
  have HG0 := Lib.hid g0
  have HG1 := Lib.hid g1
  have L0 := Lib.hid l0
  have L1 := Lib.hid l1
  have e0 := h0
  have e1 := h1
  obtain ⟨a0, c0, rfl, hlc0, _, _⟩ := e0
  obtain ⟨a1, c1, rfl, hlc1, _, _⟩ := e1
  obtain ⟨X, hX⟩ : ∃ S, S = seTo z0 z0.length := ⟨_, rfl⟩
  obtain ⟨Y, hY⟩ : ∃ S, S = seTo z1 z1.length := ⟨_, rfl⟩
  rw [← hX] at HR HBX hXl HSX
  rw [← hY] at HR HBY hYl HSY
  have HX0 := Lib.hid hX
  have HY0 := Lib.hid hY
  rw [← hl] at h1 hlc1 hYl ⊢
  obtain ⟨n, hn⟩ : ∃ n, n = z0.length := ⟨_, rfl⟩
  rw [← hn] at h0 h1 hlc0 hlc1 HR hXl hYl n16 n1 ⊢
  have H0 := Lib.hid h0
  have H1 := Lib.hid h1
  have HXl := Lib.hid hXl
  have HYl := Lib.hid hYl
  have z5 : ((n : Int) == 0) = false := by simp; omega
  clear h0 h1 hX hY hXl hYl hl hn l0 l1 v0' v1' g0 g1 m16
  go_enter Try.func19, Try.ntmps19
  go_wp2_with fail
  refine (implValidRow_any _ _ z0 H0.out L0.out).mono ?_; rintro e w' ⟨rfl, hww⟩; have e2 := HV0.out; rw [e2]; subst hww; clear e2
  go_wp2_with fail
  refine (implValidRow_any _ _ z1 H1.out L1.out).mono ?_; rintro e w' ⟨rfl, hww⟩; have e2 := HV1.out; rw [e2]; subst hww; clear e2
  go_wp2_with fail
  refine (ones_any _ _ z0 H0.out L0.out).mono ?_; rintro e w' ⟨rfl, hww⟩; have e2 := HO0.out; rw [e2]; subst hww; clear e2
  go_wp2_with fail
  refine (ones_any _ _ z1 H1.out L1.out).mono ?_; rintro e w' ⟨rfl, hww⟩; have e2 := HO1.out; rw [e2]; subst hww; clear e2
  go_wp2_with fail
  refine (implSelfOf_any _ _ z0 H0.out L0.out).mono ?_; rintro e w1 ⟨r, rfl, hr, hb1⟩
  rw [HSX.out] at hr
  go_wp2_with fail
  refine (implSelfOf_any _ _ z1 (H1.out.below hb1) L1.out).mono ?_; rintro e w2 ⟨p, rfl, hp, hb2⟩
  rw [HSY.out] at hp
  have hb : Below w.heap.size w w2 := hb1.trans (hb2.mono hb1.size)
  have hr2 := (hr.keep (Below.grownBy hb2)).rd
  have hp2 := hp.rd
  clear hr hp hb1 hb2
  obtain ⟨a2, c2, rfl, hq1, _, hq3⟩ := hr2
  obtain ⟨a3, c3, rfl, hq4, _, hq6⟩ := hp2
  rw [HXl.out] at hq1 ⊢
  rw [HYl.out] at hq4 ⊢
  have HQ := Lib.hid hq3
  have HP := Lib.hid hq6
  clear hq3 hq6
  go_wp2
  go_loopw [7] (fun i wr => ∃ k q : Nat, k + 1 ≤ n ∧ i = .int .i64 ((k : Int) + 1) ∧ prB X Y k = true ∧ wr = w2.drewN q) (fun i _ => n - (intOf i).toNat)
  case atStart => exact ⟨0, 0, by omega, rfl, rfl, rfl⟩
  case round =>
    obtain ⟨k, q, hk, rfl, ha, rfl⟩ := hrel
    have HA := Lib.hid ha
    clear ha
    by_cases hlt : k + 1 < n
    · obtain ⟨b, o, rfl, hcell⟩ := HQ.out.resolve_left (by intro hh; have := HXl.out; rw [hh] at this; simp at this; omega)
      obtain ⟨b', o', rfl, hcell'⟩ := HP.out.resolve_left (by intro hh; have := HYl.out; rw [hh] at this; simp at this; omega)
      have h1 : w2.cell? ⟨b, o + (k + 1), none⟩ = some (.int .i64 (X.getD (k + 1) 0)) := hcell (k + 1) (by rw [HXl.out]; exact hlt)
      have h2 : w2.cell? ⟨b', o' + (k + 1), none⟩ = some (.int .i64 (Y.getD (k + 1) 0)) := hcell' (k + 1) (by rw [HYl.out]; exact hlt)
      clear hcell HQ hcell' HP
      have bx := HBX.out (k + 1)
      have by' := HBY.out (k + 1)
      obtain ⟨x, hx⟩ : ∃ x, x = X.getD (k + 1) 0 := ⟨_, rfl⟩
      obtain ⟨y, hy⟩ : ∃ y, y = Y.getD (k + 1) 0 := ⟨_, rfl⟩
      rw [← hx] at h1 bx
      rw [← hy] at h2 by'
      have HX := Lib.hid hx
      have HY := Lib.hid hy
      clear hx hy
      have s0 : (0 : Int) ≤ (k : Int) + 1 := by omega
      have s1 : (k : Int) + 1 < (n : Int) := by omega
      have s3 : ((k : Int) + 1).toNat = k + 1 := by omega
      have s6 : IntKind.i64.wrap (x + y) = x + y := IntWalk.i64_in _ (by omega)
      by_cases he : x + y = 0
      · have HO := Lib.hid (prB_snoc HA.out (by rw [← HX.out, ← HY.out]; exact he))
        have hne : (x + y != 0) = false := by simp [he]
        clear he
        go_wp2
        go_quiet (fail)
        clear s3 s6
        go_wp2
        go_roundw
        case rel => exact ⟨k + 1, q + nq, by omega, by go_num, HO.out, rfl⟩
        case measure => simp [intOf]; omega
      · have HO := Lib.hid (prB_bad (x := X) (y := Y) (show k < n - 1 by omega) (by rw [← HX.out, ← HY.out]; exact he))
        have hne : (x + y != 0) = true := by simp [he]
        clear he
        go_wp2
        go_quiet (fail)
        clear s3 s6
        go_wp2
        go_ret
        exact ⟨ret_bool (by rw [HR.out, HO.out]), below_drewN (below_drewN hb q) nq⟩
    · have e : k = n - 1 := by omega
      have HO := Lib.hid (show prB X Y (n - 1) = true by rw [← e]; exact HA.out)
      clear e
      go_wp2
      go_ret
      exact ⟨ret_bool (by rw [HR.out, HO.out]), below_drewN hb q⟩
set_option maxHeartbeats 800000 in
theorem implArePaired_any (w : World) (v0 : Value) (z0 : List Int) (h0 : Rd w v0 z0) (l0 : z0.length ≤ 1048576) (v1 : Value) (z1 : List Int) (h1 : Rd w v1 z1) (l1 : z1.length ≤ 1048576) :
    Calls Try.prog 19 #[v0, v1] w fun e w' => e = .returned (.bool (retArePaired z0 z1)) ∧ Below w.heap.size w w' := by
  by_cases v0' : vrow z0 = true
  · by_cases v1' : vrow z1 = true
    · have HV0 := Lib.hid v0'
      have HV1 := Lib.hid v1'
      by_cases n1 : 1 ≤ z0.length
      · by_cases hl : z0.length = z1.length
        · by_cases o0 : on1 z0 = true
          · by_cases o1 : on1 z1 = true
            · exact implPair_yes w v0 z0 h0 l0 v1 z1 h1 l1 (by simp [oneRow, o0, v0']) (by simp [oneRow, o1, v1']) hl n1
            · have o1' : on1 z1 = false := by simpa using o1
              have HR := Lib.hid (show retArePaired z0 z1 = false by simp [retArePaired, okArePaired, oneRow, o1'])
              have HO0 := Lib.hid o0
              have HO1 := Lib.hid o1'
              have L0 := Lib.hid l0
              have L1 := Lib.hid l1
              have e0 := h0
              have e1 := h1
              obtain ⟨a0, c0, rfl, _, _, _⟩ := e0
              obtain ⟨a1, c1, rfl, _, _, _⟩ := e1
              obtain ⟨n, hn⟩ : ∃ n, n = z0.length := ⟨_, rfl⟩
              obtain ⟨m, hm⟩ : ∃ n, n = z1.length := ⟨_, rfl⟩
              rw [← hn] at h0 n1 hl ⊢
              rw [← hm] at h1 hl ⊢
              subst hl
              have H0 := Lib.hid h0
              have H1 := Lib.hid h1
              have z5 : ((n : Int) == 0) = false := by simp; omega
              clear hn hm h0 h1 l0 l1 v0' v1' o0 o1 o1'
              go_enter Try.func19, Try.ntmps19
              go_wp2_with fail
              refine (implValidRow_any _ _ z0 H0.out L0.out).mono ?_; rintro e w' ⟨rfl, hww⟩; have e2 := HV0.out; rw [e2]; subst hww; clear e2
              go_wp2_with fail
              refine (implValidRow_any _ _ z1 H1.out L1.out).mono ?_; rintro e w' ⟨rfl, hww⟩; have e2 := HV1.out; rw [e2]; subst hww; clear e2
              go_wp2_with fail
              refine (ones_any _ _ z0 H0.out L0.out).mono ?_; rintro e w' ⟨rfl, hww⟩; have e2 := HO0.out; rw [e2]; subst hww; clear e2
              go_wp2_with fail
              refine (ones_any _ _ z1 H1.out L1.out).mono ?_; rintro e w' ⟨rfl, hww⟩; have e2 := HO1.out; rw [e2]; subst hww; clear e2
              go_wp2_with fail
              go_ret
              exact ⟨ret_bool HR.out.symm, Below.refl _ _⟩
          · have o0' : on1 z0 = false := by simpa using o0
            have HR := Lib.hid (show retArePaired z0 z1 = false by simp [retArePaired, okArePaired, oneRow, o0'])
            have HO0 := Lib.hid o0'
            have L0 := Lib.hid l0
            have L1 := Lib.hid l1
            have e0 := h0
            have e1 := h1
            obtain ⟨a0, c0, rfl, _, _, _⟩ := e0
            obtain ⟨a1, c1, rfl, _, _, _⟩ := e1
            obtain ⟨n, hn⟩ : ∃ n, n = z0.length := ⟨_, rfl⟩
            obtain ⟨m, hm⟩ : ∃ n, n = z1.length := ⟨_, rfl⟩
            rw [← hn] at h0 n1 hl ⊢
            rw [← hm] at h1 hl ⊢
            subst hl
            have H0 := Lib.hid h0
            have H1 := Lib.hid h1
            have z5 : ((n : Int) == 0) = false := by simp; omega
            clear hn hm h0 h1 l0 l1 v0' v1' o0 o0'
            go_enter Try.func19, Try.ntmps19
            go_wp2_with fail
            refine (implValidRow_any _ _ z0 H0.out L0.out).mono ?_; rintro e w' ⟨rfl, hww⟩; have e2 := HV0.out; rw [e2]; subst hww; clear e2
            go_wp2_with fail
            refine (implValidRow_any _ _ z1 H1.out L1.out).mono ?_; rintro e w' ⟨rfl, hww⟩; have e2 := HV1.out; rw [e2]; subst hww; clear e2
            go_wp2_with fail
            refine (ones_any _ _ z0 H0.out L0.out).mono ?_; rintro e w' ⟨rfl, hww⟩; have e2 := HO0.out; rw [e2]; subst hww; clear e2
            go_wp2_with fail
            go_ret
            exact ⟨ret_bool HR.out.symm, Below.refl _ _⟩
        · have HR := Lib.hid (show retArePaired z0 z1 = false by simp [retArePaired, okArePaired, hl])
          have L0 := Lib.hid l0
          have L1 := Lib.hid l1
          have e0 := h0
          have e1 := h1
          obtain ⟨a0, c0, rfl, _, _, _⟩ := e0
          obtain ⟨a1, c1, rfl, _, _, _⟩ := e1
          obtain ⟨n, hn⟩ : ∃ n, n = z0.length := ⟨_, rfl⟩
          obtain ⟨m, hm⟩ : ∃ n, n = z1.length := ⟨_, rfl⟩
          rw [← hn] at h0 n1 hl ⊢
          rw [← hm] at h1 hl ⊢
          have H0 := Lib.hid h0
          have H1 := Lib.hid h1
          have z5 : ((n : Int) == 0) = false := by simp; omega
          have z6 : ((n : Int) != (m : Int)) = true := by simp; omega
          clear hn hm h0 h1 l0 l1 v0' v1' hl
          go_enter Try.func19, Try.ntmps19
          go_wp2_with fail
          refine (implValidRow_any _ _ z0 H0.out L0.out).mono ?_; rintro e w' ⟨rfl, hww⟩; have e2 := HV0.out; rw [e2]; subst hww; clear e2
          go_wp2_with fail
          refine (implValidRow_any _ _ z1 H1.out L1.out).mono ?_; rintro e w' ⟨rfl, hww⟩; have e2 := HV1.out; rw [e2]; subst hww; clear e2
          go_wp2_with fail
          go_ret
          exact ⟨ret_bool HR.out.symm, Below.refl _ _⟩
      · have HR := Lib.hid (show retArePaired z0 z1 = false by simp [retArePaired, okArePaired, n1])
        have hz : z0.length = 0 := by omega
        have L0 := Lib.hid l0
        have L1 := Lib.hid l1
        have e0 := h0
        have e1 := h1
        obtain ⟨a0, c0, rfl, _, _, _⟩ := e0
        obtain ⟨a1, c1, rfl, _, _, _⟩ := e1
        obtain ⟨n, hn⟩ : ∃ n, n = z0.length := ⟨_, rfl⟩
        obtain ⟨m, hm⟩ : ∃ n, n = z1.length := ⟨_, rfl⟩
        rw [← hn] at hz h0 ⊢
        rw [← hm] at h1 ⊢
        subst hz
        have H0 := Lib.hid h0
        have H1 := Lib.hid h1
        clear hn hm h0 h1 l0 l1 v0' v1' n1
        go_enter Try.func19, Try.ntmps19
        go_wp2_with fail
        refine (implValidRow_any _ _ z0 H0.out L0.out).mono ?_; rintro e w' ⟨rfl, hww⟩; have e2 := HV0.out; rw [e2]; subst hww; clear e2
        go_wp2_with fail
        refine (implValidRow_any _ _ z1 H1.out L1.out).mono ?_; rintro e w' ⟨rfl, hww⟩; have e2 := HV1.out; rw [e2]; subst hww; clear e2
        go_wp2_with fail
        go_ret
        exact ⟨ret_bool HR.out.symm, Below.refl _ _⟩
    · have v1'' : vrow z1 = false := by simpa using v1'
      have HR := Lib.hid (show retArePaired z0 z1 = false by simp [retArePaired, okArePaired, oneRow, v1''])
      have HV0 := Lib.hid v0'
      have HV1 := Lib.hid v1''
      have H0 := Lib.hid h0
      have H1 := Lib.hid h1
      have L0 := Lib.hid l0
      have L1 := Lib.hid l1
      clear v0' v1' v1'' h0 h1 l0 l1
      go_enter Try.func19, Try.ntmps19
      go_wp2_with fail
      refine (implValidRow_any _ _ z0 H0.out L0.out).mono ?_; rintro e w' ⟨rfl, hww⟩; have e2 := HV0.out; rw [e2]; subst hww; clear e2
      go_wp2_with fail
      refine (implValidRow_any _ _ z1 H1.out L1.out).mono ?_; rintro e w' ⟨rfl, hww⟩; have e2 := HV1.out; rw [e2]; subst hww; clear e2
      go_wp2_with fail
      go_ret
      exact ⟨ret_bool HR.out.symm, Below.refl _ _⟩
  · have v0'' : vrow z0 = false := by simpa using v0'
    have HR := Lib.hid (show retArePaired z0 z1 = false by simp [retArePaired, okArePaired, oneRow, v0''])
    have HV0 := Lib.hid v0''
    have H0 := Lib.hid h0
    have L0 := Lib.hid l0
    clear v0' v0'' h0 l0
    go_enter Try.func19, Try.ntmps19
    go_wp2_with fail
    refine (implValidRow_any _ _ z0 H0.out L0.out).mono ?_; rintro e w' ⟨rfl, hww⟩; have e2 := HV0.out; rw [e2]; subst hww; clear e2
    go_wp2_with fail
    go_ret
    exact ⟨ret_bool HR.out.symm, Below.refl _ _⟩
end Go.Proofs.Ytjakoeamnmdcmaa
