/- TurnOf: the reference and the program lay the rests round the row. Conditions: at most 1048576 numbers. -/
import Derived.Test.YtnhpcjghgnajhaaRow3
import Derived.Test.YtnhpcjghgnajhaaMem
namespace Go.Proofs.Ytnhpcjghgnajhaa
open Go.RowKit
/-- The row with the first j rests laid k places further on. -/
def turnTo (n k : Nat) (zs : List Int) : Nat → List Int
  | 0 => List.replicate n 0
  | j + 1 => (turnTo n k zs j).set ((j + k) % n) (zs.getD j 0)
theorem turnTo_len (n k : Nat) (zs : List Int) (j : Nat) : (turnTo n k zs j).length = n := by
  induction j with
  | zero => simp [turnTo]
  | succ j ih => simp [turnTo, ih]
def okTurnOf (zs : List Int) (k : Int) : Bool := vrests zs && inB 0 16 k
def resTurnOf (zs : List Int) (k : Int) : List Int := if okTurnOf zs k = true then turnTo zs.length k.toNat zs zs.length else []
theorem resTurnOf_len (zs : List Int) (k : Int) : (resTurnOf zs k).length ≤ 1048576 := by
  unfold resTurnOf
  split
  · rename_i h
    simp [okTurnOf, vrests] at h
    rw [turnTo_len]; omega
  · simp
theorem vrests_len {zs : List Int} (h : vrests zs = true) : 1 ≤ zs.length ∧ zs.length ≤ 96 := by
  simp [vrests] at h; omega
theorem ret_own {w' : World} {lo : Nat} {v : Value} {zs zs' : List Int} {P : Prop} (h : Own w' lo v zs) (e : zs' = zs) (p : P) : ∃ r, Ending.returned v = .returned r ∧ Own w' lo r zs' ∧ P := ⟨v, rfl, e ▸ h, p⟩
theorem tmod_nat (m j n : Nat) : ((m : Int) + (j : Int)).tmod (n : Int) = (((m + j) % n : Nat) : Int) := by
  rw [← Int.natCast_add]; rfl
set_option maxHeartbeats 800000 in
theorem specTurnOf_any (w : World) (v : Value) (zs : List Int) (h : Rd w v zs) (hl : zs.length ≤ 1048576) (k : Int) :
    Calls Try.prog 17 #[v, .int .i64 k] w fun e w' => ∃ r, e = .returned r ∧ Own w' w.heap.size r (resTurnOf zs k) ∧ Below w.heap.size w w' := by
  by_cases hv : vrests zs = true
  · by_cases hb : 0 ≤ k ∧ k ≤ 16
    · obtain ⟨hb0, hb1⟩ := hb
      obtain ⟨j, rfl⟩ := Int.eq_ofNat_of_zero_le hb0
      obtain ⟨n1, n2⟩ := vrests_len hv
      have HR := Lib.hid (show resTurnOf zs j = turnTo zs.length j zs zs.length by simp [resTurnOf, okTurnOf, hv, inB]; omega)
      have h' := h
      obtain ⟨a, cap, rfl, hlc, hm, hc⟩ := h'
      obtain ⟨b, o, rfl, hcell⟩ := hc.resolve_left (by intro h0; rw [h0] at n1; simp at n1)
      have hbl : b < w.heap.size := World.block_lt_of_cell? w _ (hcell 0 (by omega))
      obtain ⟨n, hn⟩ : ∃ n, n = zs.length := ⟨_, rfl⟩
      have HH := Lib.hid h
      rw [← hn] at hlc hl HR n1 n2 hcell HH ⊢
      have HN := Lib.hid hn
      have HC := Lib.hid hcell
      clear hcell hn hm h hc
      have z3 : ¬ n = 0 := by omega
      go_enter Try.func17, Try.ntmps17
      go_wp2_with (first | (go_at_call 29; refine (validRests_any _ _ zs HH.out (by rw [← HN.out]; omega)).mono ?_; rintro e w' ⟨rfl, rfl⟩) | (go_at_call 23; refine (inRange_yes _ _ _ _ (by omega) (by omega)).mono ?_; rintro e w' ⟨rfl, rfl⟩) | (at_make; refine wpList_mk rfl _ _ rfl n rfl rfl (by omega) ?_))
      intro w1 hrow hgrow
      have hb1 : Below w.heap.size w w1 := (Below.refl _ _).grown hgrow (Nat.le_refl _) (by simp)
      clear hgrow
      go_wp2
      go_loopw [6] (fun i wr => ∃ m : Nat, m ≤ n ∧ i = .int .i64 m ∧ Row wr w.heap.size w.heap.size n n (turnTo n j zs m) ∧ Below w.heap.size w wr) (fun i _ => n - (intOf i).toNat)
      case atStart => exact ⟨0, Nat.zero_le _, rfl, hrow, hb1⟩
      case round =>
        obtain ⟨m, hm, rfl, hr, hbel⟩ := hrel
        clear hrow hb1
        by_cases hlt : m < n
        · have h3 : wr.cell? ⟨b, o + m, none⟩ = some (.int .i64 (zs.getD m 0)) := (hbel.cell hbl).trans (HC.out m hlt)
          obtain ⟨q, hq⟩ : ∃ q, q = (m + j) % n := ⟨_, rfl⟩
          have hqn : q < n := by rw [hq]; exact Nat.mod_lt _ (by omega)
          have HQ := Lib.hid hq
          have s1 : IntKind.i64.wrap ((m : Int) + (j : Int)) = (m : Int) + (j : Int) := IntWalk.i64_in _ (by omega)
          have s2 : ((m : Int) + (j : Int)).tmod (n : Int) = (q : Int) := by rw [hq]; exact tmod_nat m j n
          clear hq
          have s3 : (0 : Int) ≤ (q : Int) := by omega
          have s4 : (q : Int) < (n : Int) := by omega
          have h1 := hr.get q hqn
          have h2 := hr.free q
          go_wp2
          go_still_tail 12, (by kernel_rfl)
          clear s1 s2
          change wpList _ _ _ _ _ wr.drew
          go_wp2
          go_roundw
          case rel => exact ⟨m + 1, by omega, by go_num, by unfold turnTo; rw [← HQ.out]; exact hr.drew.set q _, hbel.drew.setCell (Nat.le_refl _) _⟩
          case measure => simp [intOf]; omega
        · go_wp2
          go_ret
          have e : m = n := by omega
          subst e
          exact ret_own hr.own (by rw [HR.out]) hbel
    · have hb' : k < 0 ∨ 16 < k := by omega
      have HR := Lib.hid (show resTurnOf zs k = [] by simp [resTurnOf, okTurnOf, hv, inB]; omega)
      clear hb
      go_enter Try.func17, Try.ntmps17
      go_wp2_with (first | (go_at_call 29; refine (validRests_any _ _ zs h hl).mono ?_; rintro e w' ⟨rfl, rfl⟩) | (go_at_call 23; refine (inRange_no _ _ _ _ hb').mono ?_; rintro e w' ⟨rfl, rfl⟩))
      go_ret
      exact ret_own (Own.nil _ _) HR.out (Below.refl _ _)
  · have hv' : vrests zs = false := by simpa using hv
    have HR := Lib.hid (show resTurnOf zs k = [] by simp [resTurnOf, okTurnOf, hv'])
    clear hv
    go_enter Try.func17, Try.ntmps17
    go_wp2_with (go_at_call 29; refine (validRests_any _ _ zs h hl).mono ?_; rintro e w' ⟨rfl, rfl⟩)
    go_ret
    exact ret_own (Own.nil _ _) HR.out (Below.refl _ _)
set_option maxHeartbeats 800000 in
theorem implTurnOf_any (w : World) (v : Value) (zs : List Int) (h : Rd w v zs) (hl : zs.length ≤ 1048576) (k : Int) :
    Calls Try.prog 18 #[v, .int .i64 k] w fun e w' => ∃ r, e = .returned r ∧ Own w' w.heap.size r (resTurnOf zs k) ∧ Below w.heap.size w w' := by
  by_cases hv : vrests zs = true
  · by_cases hb : 0 ≤ k ∧ k ≤ 16
    · obtain ⟨hb0, hb1⟩ := hb
      obtain ⟨j, rfl⟩ := Int.eq_ofNat_of_zero_le hb0
      obtain ⟨n1, n2⟩ := vrests_len hv
      have HR := Lib.hid (show resTurnOf zs j = turnTo zs.length j zs zs.length by simp [resTurnOf, okTurnOf, hv, inB]; omega)
      have h' := h
      obtain ⟨a, cap, rfl, hlc, hm, hc⟩ := h'
      obtain ⟨b, o, rfl, hcell⟩ := hc.resolve_left (by intro h0; rw [h0] at n1; simp at n1)
      have hbl : b < w.heap.size := World.block_lt_of_cell? w _ (hcell 0 (by omega))
      obtain ⟨n, hn⟩ : ∃ n, n = zs.length := ⟨_, rfl⟩
      have HH := Lib.hid h
      rw [← hn] at hlc hl HR n1 n2 hcell HH ⊢
      have HN := Lib.hid hn
      have HC := Lib.hid hcell
      clear hcell hn hm h hc
      have z3 : ¬ n = 0 := by omega
      go_enter Try.func18, Try.ntmps18
      go_wp2_with (first | (go_at_call 15; refine (implValidRests_any _ _ zs HH.out (by rw [← HN.out]; omega)).mono ?_; rintro e w' ⟨rfl, rfl⟩) | (at_make; refine wpList_mk rfl _ _ rfl n rfl rfl (by omega) ?_))
      intro w1 hrow hgrow
      have hb1 : Below w.heap.size w w1 := (Below.refl _ _).grown hgrow (Nat.le_refl _) (by simp)
      clear hgrow
      go_wp2
      go_loopw [6, 7, 24] (fun _ _ i wr => ∃ m : Nat, m ≤ n ∧ i = .int .i64 m ∧ Row wr w.heap.size w.heap.size n n (turnTo n j zs m) ∧ Below w.heap.size w wr) (fun _ _ i _ => n - (intOf i).toNat)
      case atStart => exact ⟨0, Nat.zero_le _, rfl, hrow, hb1⟩
      case round =>
        obtain ⟨m, hm, rfl, hr, hbel⟩ := hrel
        clear hrow hb1
        by_cases hlt : m < n
        · have h3 : wr.cell? ⟨b, o + m, none⟩ = some (.int .i64 (zs.getD m 0)) := (hbel.cell hbl).trans (HC.out m hlt)
          obtain ⟨q, hq⟩ : ∃ q, q = (m + j) % n := ⟨_, rfl⟩
          have hqn : q < n := by rw [hq]; exact Nat.mod_lt _ (by omega)
          have HQ := Lib.hid hq
          have s2 : ((m : Int) + (j : Int)) % (n : Int) = (q : Int) := by rw [hq]; rfl
          clear hq
          have s3 : (0 : Int) ≤ (q : Int) := by omega
          have s4 : (q : Int) < (n : Int) := by omega
          have h1 := hr.get q hqn
          have h2 := hr.free q
          go_wp2
          clear s2
          go_roundw
          case rel => exact ⟨m + 1, by omega, by go_num, by unfold turnTo; rw [← HQ.out]; exact hr.set q _, hbel.setCell (Nat.le_refl _) _⟩
          case measure => simp [intOf]; omega
        · go_wp2
          go_ret
          have e : m = n := by omega
          subst e
          exact ret_own hr.own (by rw [HR.out]) hbel
    · have HR := Lib.hid (show resTurnOf zs k = [] by simp [resTurnOf, okTurnOf, hv, inB]; omega)
      by_cases hb0 : k < 0
      · clear hb
        go_enter Try.func18, Try.ntmps18
        go_wp2_with (go_at_call 15; refine (implValidRests_any _ _ zs h hl).mono ?_; rintro e w' ⟨rfl, rfl⟩)
        go_ret
        exact ret_own (Own.nil _ _) HR.out (Below.refl _ _)
      · have hb1 : 16 < k := by omega
        clear hb
        go_enter Try.func18, Try.ntmps18
        go_wp2_with (go_at_call 15; refine (implValidRests_any _ _ zs h hl).mono ?_; rintro e w' ⟨rfl, rfl⟩)
        go_ret
        exact ret_own (Own.nil _ _) HR.out (Below.refl _ _)
  · have hv' : vrests zs = false := by simpa using hv
    have HR := Lib.hid (show resTurnOf zs k = [] by simp [resTurnOf, okTurnOf, hv'])
    clear hv
    go_enter Try.func18, Try.ntmps18
    go_wp2_with (go_at_call 15; refine (implValidRests_any _ _ zs h hl).mono ?_; rintro e w' ⟨rfl, rfl⟩)
    go_ret
    exact ret_own (Own.nil _ _) HR.out (Below.refl _ _)
end Go.Proofs.Ytnhpcjghgnajhaa
