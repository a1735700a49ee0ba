/- EnergyOf: the reference and the program return the sum of the squares. Conditions: at most 1048576 numbers. -/
import Derived.Test.YtnjnniaiajejeaaRow1
import Derived.Test.YtnjnniaiajejeaaMem
namespace Go.Proofs.Ytnjnniaiajejeaa
open Go.RowKit
/-- The sum of the first k squares. -/
def enTo (zs : List Int) : Nat → Int
  | 0 => 0
  | k + 1 => enTo zs k + zs.getD k 0 * zs.getD k 0
theorem sq_bd {x : Int} (h1 : -1000 ≤ x) (h2 : x ≤ 1000) : 0 ≤ x * x ∧ x * x ≤ 1000000 := by
  have e : x * x = (x.natAbs : Int) * (x.natAbs : Int) := by rw [Int.natAbs_mul_self']
  rw [e]
  refine ⟨Int.mul_nonneg (by omega) (by omega), ?_⟩
  have h : x.natAbs ≤ 1000 := by omega
  have := Nat.mul_le_mul h h
  rw [← Int.natCast_mul]; omega
theorem enTo_bd {zs : List Int} (h : ∀ j, -1000 ≤ zs.getD j 0 ∧ zs.getD j 0 ≤ 1000) (k : Nat) : 0 ≤ enTo zs k ∧ enTo zs k ≤ 1000000 * k := by
  induction k with
  | zero => simp [enTo]
  | succ k ih => have := sq_bd (h k).1 (h k).2; simp only [enTo]; omega
def retEnergyOf (zs : List Int) : Int := if vrow zs = true then enTo zs zs.length else -1
theorem Quiet.drew {w wr : World} (h : Quiet w wr) : Quiet w wr.drew := by
  obtain ⟨m, rfl⟩ := h
  exact ⟨m + 1, (World.drewN_drewN w m 1).symm ▸ rfl⟩
theorem Quiet.cell {w wr : World} (h : Quiet w wr) (p : Addr) : wr.cell? p = w.cell? p := by
  obtain ⟨m, rfl⟩ := h; rfl
set_option maxHeartbeats 400000 in
theorem specEnergyOf_any (w : World) (v : Value) (zs : List Int) (h : Rd w v zs) (hl : zs.length ≤ 1048576) :
    Calls Try.prog 20 #[v] w fun e w' => e = .returned (.int .i64 (retEnergyOf zs)) ∧ Quiet w w' := by
  by_cases hv : vrow zs = true
  · have HR := Lib.hid (show retEnergyOf zs = _ by rw [retEnergyOf, if_pos hv])
    have hl16 := vrow_len hv
    have HB := Lib.hid (vrow_all hv)
    have h' := h
    obtain ⟨a, cap, rfl, hlc, hm, hc⟩ := h'
    obtain ⟨n, hn⟩ : ∃ n, n = zs.length := ⟨_, rfl⟩
    rw [← hn] at hlc hl16 HR h hl ⊢
    have HH := Lib.hid h
    have HN := Lib.hid hn
    have HC := Lib.hid hc
    clear hc hn hm h hl
    have hl : zs.length ≤ 1048576 := by rw [← HN.out]; omega
    go_enter Try.func20, Try.ntmps20
    go_wp2_with (go_at_call 27; refine (validRow_any _ _ zs HH.out hl).mono ?_; rintro e w' ⟨rfl, rfl⟩)
    go_loopw [3, 4] (fun s i wr => ∃ k : Nat, k ≤ n ∧ i = .int .i64 k ∧ s = .int .i64 (enTo zs k) ∧ Quiet w wr) (fun _ i _ => n - (intOf i).toNat)
    case atStart => exact ⟨0, Nat.zero_le _, rfl, rfl, Quiet.refl _⟩
    case round =>
      obtain ⟨k, hk, rfl, rfl, hq⟩ := hrel
      by_cases hlt : k < n
      · obtain ⟨b, o, rfl, hcell⟩ := HC.out.resolve_left (by intro h0; have := HN.out; rw [h0] at this; simp at this; omega)
        have h1 : wr.cell? ⟨b, o + k, none⟩ = some (.int .i64 (zs.getD k 0)) := (hq.cell _).trans (hcell k (by rw [← HN.out]; exact hlt))
        clear hcell HC
        have hb := enTo_bd HB.out k
        have hx2 := HB.out k
        obtain ⟨x, hx⟩ : ∃ x, x = zs.getD k 0 := ⟨_, rfl⟩
        rw [← hx] at h1 hx2
        have HX := Lib.hid (show enTo zs (k + 1) = enTo zs k + x * x by rw [hx]; rfl)
        clear hx
        have hsq := sq_bd hx2.1 hx2.2
        obtain ⟨y, hy⟩ : ∃ y, y = enTo zs k := ⟨_, rfl⟩
        rw [← hy] at hb HX ⊢
        clear hy
        have s0 : (0 : Int) ≤ (k : Int) := by omega
        have s1 : (k : Int) < (n : Int) := by omega
        have s5 : IntKind.i64.wrap (x * x) = x * x := IntWalk.i64_in _ (by omega)
        have s6 : IntKind.i64.wrap (y + x * x) = y + x * x := IntWalk.i64_in _ (by omega)
        go_wp2
        go_still_tail 11, (by kernel_rfl)
        clear s5 s6
        change wpList _ _ _ _ _ wr.drew
        go_wp2
        go_roundw
        case rel => exact ⟨k + 1, by omega, by go_num, by rw [HX.out], hq.drew⟩
        case measure => simp [intOf]; omega
      · have e : k = n := by omega
        have E := Lib.hid e
        clear e
        go_wp2
        go_ret
        exact ⟨ret_int (by rw [HR.out, E.out]), hq⟩
  · have hv' : vrow zs = false := by simpa using hv
    have HR := Lib.hid (show retEnergyOf zs = -1 by rw [retEnergyOf, if_neg hv])
    clear hv
    go_enter Try.func20, Try.ntmps20
    go_wp2_with (go_at_call 27; refine (validRow_any _ _ zs h hl).mono ?_; rintro e w' ⟨rfl, rfl⟩)
    go_ret
    exact ⟨ret_int HR.out.symm, Quiet.refl _⟩
set_option maxHeartbeats 400000 in
theorem implEnergyOf_any (w : World) (v : Value) (zs : List Int) (h : Rd w v zs) (hl : zs.length ≤ 1048576) :
    Calls Try.prog 19 #[v] w fun e w' => e = .returned (.int .i64 (retEnergyOf zs)) ∧ w = w' := by
  by_cases hv : vrow zs = true
  · have HR := Lib.hid (show retEnergyOf zs = _ by rw [retEnergyOf, if_pos hv])
    have hl16 := vrow_len hv
    have HB := Lib.hid (vrow_all hv)
    have h' := h
    obtain ⟨a, cap, rfl, hlc, hm, hc⟩ := h'
    obtain ⟨n, hn⟩ : ∃ n, n = zs.length := ⟨_, rfl⟩
    rw [← hn] at hlc hl16 HR h hl ⊢
    have HH := Lib.hid h
    have HN := Lib.hid hn
    have HC := Lib.hid hc
    clear hc hn hm h hl
    have hl : zs.length ≤ 1048576 := by rw [← HN.out]; omega
    go_enter Try.func19, Try.ntmps19
    go_wp2_with (go_at_call 12; refine (implValidRow_any _ _ zs HH.out hl).mono ?_; rintro e w' ⟨rfl, rfl⟩)
    go_loop [3, 5, 11] (fun s _ i => ∃ k : Nat, k ≤ n ∧ i = .int .i64 k ∧ s = .int .i64 (enTo zs k)) (fun _ _ i => n - (intOf i).toNat)
    case atStart => exact ⟨0, Nat.zero_le _, rfl, rfl⟩
    case round =>
      obtain ⟨k, hk, rfl, rfl⟩ := hrel
      by_cases hlt : k < n
      · obtain ⟨b, o, rfl, hcell⟩ := HC.out.resolve_left (by intro h0; have := HN.out; rw [h0] at this; simp at this; omega)
        have h1 := hcell k (by rw [← HN.out]; exact hlt)
        clear hcell HC
        have hb := enTo_bd HB.out k
        have hx2 := HB.out k
        obtain ⟨x, hx⟩ : ∃ x, x = zs.getD k 0 := ⟨_, rfl⟩
        rw [← hx] at h1 hx2
        have HX := Lib.hid (show enTo zs (k + 1) = enTo zs k + x * x by rw [hx]; rfl)
        clear hx
        have hsq := sq_bd hx2.1 hx2.2
        go_wp2
        go_round
        case rel => exact ⟨k + 1, by omega, by go_num, by rw [HX.out]⟩
        case measure => simp [intOf]; omega
      · have e : k = n := by omega
        have E := Lib.hid e
        clear e
        go_wp2
        go_ret
        exact ⟨ret_int (by rw [HR.out, E.out]), rfl⟩
  · have hv' : vrow zs = false := by simpa using hv
    have HR := Lib.hid (show retEnergyOf zs = -1 by rw [retEnergyOf, if_neg hv])
    clear hv
    go_enter Try.func19, Try.ntmps19
    go_wp2_with (go_at_call 12; refine (implValidRow_any _ _ zs h hl).mono ?_; rintro e w' ⟨rfl, rfl⟩)
    go_ret
    exact ⟨ret_int HR.out.symm, rfl⟩
end Go.Proofs.Ytnjnniaiajejeaa
