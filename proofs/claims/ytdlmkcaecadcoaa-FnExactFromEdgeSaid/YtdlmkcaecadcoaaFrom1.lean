/- FromEdge: the reference and the program return the numbers whose edge the row is. Conditions: at most 1048576 numbers. -/
import Derived.Test.YtdlmkcaecadcoaaRow1
import Derived.Test.YtdlmkcaecadcoaaMem
namespace Go.Proofs.Ytdlmkcaecadcoaa
open Go.RowKit
/-- How many sets of i of n there are, as both compute it. -/
def ch (n : Nat) : Nat → Nat
  | 0 => 1
  | i + 1 => ch n i * (n - i) / (i + 1)
theorem ch_all : ∀ n : Nat, n < 17 → ∀ i : Nat, i < 18 → ch n i ≤ 12870 := by decide +kernel
theorem ch_bd {n i : Nat} (h : n ≤ 16) (h' : i ≤ 17) : ch n i ≤ 12870 := ch_all n (by omega) i (by omega)
/-- The sum of the first k products. -/
def feSum (zs : List Int) (n : Nat) : Nat → Int
  | 0 => 0
  | k + 1 => feSum zs n k + (ch n k : Int) * zs.getD k 0
/-- The first i numbers. -/
def fromTo (zs : List Int) : Nat → List Int
  | 0 => []
  | i + 1 => fromTo zs i ++ [feSum zs i (i + 1)]
theorem fromTo_len (zs : List Int) (k : Nat) : (fromTo zs k).length = k := by
  induction k with
  | zero => rfl
  | succ k ih => simp [fromTo, ih]
theorem ch_mul {c : Nat} {x : Int} (hc : c ≤ 12870) (h1 : -1000 ≤ x) (h2 : x ≤ 1000) : -12870000 ≤ (c : Int) * x ∧ (c : Int) * x ≤ 12870000 := by
  have a : (c : Int) * x ≤ (c : Int) * 1000 := Int.mul_le_mul_of_nonneg_left h2 (by omega)
  have b : (c : Int) * (-1000) ≤ (c : Int) * x := Int.mul_le_mul_of_nonneg_left h1 (by omega)
  omega
theorem feSum_bd {zs : List Int} (h : ∀ j, -1000 ≤ zs.getD j 0 ∧ zs.getD j 0 ≤ 1000) {n : Nat} (hn : n ≤ 16) (k : Nat) (hk : k ≤ 17) : -(12870000 * (k : Int)) ≤ feSum zs n k ∧ feSum zs n k ≤ 12870000 * k := by
  induction k with
  | zero => simp [feSum]
  | succ k ih =>
    have := ih (by omega)
    have a := ch_mul (ch_bd hn (show k ≤ 17 by omega)) (h k).1 (h k).2
    simp only [feSum]; omega
def resFromEdge (zs : List Int) : List Int := if vrow zs = true then fromTo zs zs.length else []
theorem resFromEdge_len (zs : List Int) : (resFromEdge zs).length ≤ 1048576 := by
  unfold resFromEdge
  split
  · rename_i h; rw [fromTo_len]; have := vrow_len h; omega
  · simp
theorem ch_step {n i : Nat} (hn : n ≤ 16) (hi : i ≤ n) : ∃ p : Nat, (ch n i : Int) * ((n : Int) - (i : Int)) = (p : Int) ∧ p ≤ 300000 ∧ ch n (i + 1) = p / (i + 1) := by
  refine ⟨ch n i * (n - i), by rw [Int.natCast_mul, Int.natCast_sub hi], ?_, rfl⟩
  have h1 := ch_bd hn (show i ≤ 17 by omega)
  exact Nat.le_trans (Nat.mul_le_mul h1 (show n - i ≤ 16 by omega)) (by omega)
set_option maxHeartbeats 400000 in
theorem choose_any (n k : Nat) (w : World) (hn : n ≤ 16) (hk : k ≤ n) :
    Calls Try.prog 48 #[.int .i64 n, .int .i64 k] w fun e w' => e = .returned (.int .i64 (ch n k : Nat)) ∧ w = w' := by
  go_enter Try.func48, Try.ntmps48
  go_wp2
  go_loop [5, 6] (fun c i => ∃ j : Nat, j ≤ k ∧ i = .int .i64 j ∧ c = .int .i64 (ch n j : Nat)) (fun _ i => k - (intOf i).toNat)
  case atStart => exact ⟨0, Nat.zero_le _, rfl, rfl⟩
  case round =>
    obtain ⟨j, hj, rfl, rfl⟩ := hrel
    by_cases hlt : j < k
    · obtain ⟨p, hp, hp2, hp3⟩ := ch_step hn (show j ≤ n by omega)
      have hb := ch_bd hn (show j ≤ 17 by omega)
      have HP := Lib.hid hp3
      obtain ⟨c, hc⟩ : ∃ c, c = ch n j := ⟨_, rfl⟩
      rw [← hc] at hp hb ⊢
      clear hp3 hc
      have d0 : p / (j + 1) ≤ p := Nat.div_le_self _ _
      have d1 : (p : Int) / ((j : Int) + 1) = ((p / (j + 1) : Nat) : Int) := rfl
      have d2 : (0 : Int) ≤ (p : Int) / ((j : Int) + 1) := by rw [d1]; exact Int.natCast_nonneg _
      have d3 : (p : Int) / ((j : Int) + 1) ≤ 300000 := by rw [d1]; exact Int.ofNat_le.2 (Nat.le_trans d0 hp2)
      clear d0 d1
      go_wp2
      go_round
      case rel => exact ⟨j + 1, by omega, by go_num, by rw [HP.out]; rfl⟩
      case measure => simp [intOf]; omega
    · have e : j = k := by omega
      subst e
      go_wp2
      go_ret
      exact ⟨rfl, rfl⟩
set_option maxHeartbeats 1000000 in
theorem specFromEdge_any (w : World) (v : Value) (zs : List Int) (h : Rd w v zs) (hl : zs.length ≤ 1048576) :
    Calls Try.prog 27 #[v] w fun e w' => ∃ r, e = .returned r ∧ Own w' w.heap.size r (resFromEdge zs) ∧ Below w.heap.size w w' := by
  by_cases hv : vrow zs = true
  · have HR := Lib.hid (show resFromEdge zs = _ by rw [resFromEdge, if_pos hv])
    have hl16 := vrow_len hv
    have HB := Lib.hid (vrow_all hv)
    have h' := h
    obtain ⟨a, cap, rfl, hlc, hm, hc⟩ := h'
    obtain ⟨n, hn⟩ : ∃ n, n = zs.length := ⟨_, rfl⟩
    rw [← hn] at hlc hl16 HR h hl ⊢
    have HH := Lib.hid h
    have HN := Lib.hid hn
    have HC := Lib.hid hc
    have HV := Lib.hid hv
    clear hc hn hm h hl
    have hl : zs.length ≤ 1048576 := by rw [← HN.out]; omega
    go_enter Try.func27, Try.ntmps27
    go_wp2_with (go_at_call 43; refine (validRow_any _ _ zs HH.out hl).mono ?_; rintro e w' ⟨rfl, rfl⟩)
    go_loopw [3, 4, 5, 6] (fun u i _ _ wr => ∃ k : Nat, k ≤ n ∧ i = .int .i64 k ∧ Own wr w.heap.size u (fromTo zs k) ∧ Below w.heap.size w wr) (fun _ i _ _ _ => n - (intOf i).toNat)
    case atStart => exact ⟨0, Nat.zero_le _, rfl, Own.lit0 w (Nat.le_refl _), (Below.refl _ _).alloc (Nat.le_refl _) _⟩
    case round =>
      obtain ⟨k, hk, rfl, hown, hbel⟩ := hrel
      by_cases hlt : k < n
      · obtain ⟨b, o, rfl, hcell⟩ := HC.out.resolve_left (by intro h0; have := HN.out; rw [h0] at this; simp at this; omega)
        have hbl := World.block_lt_of_cell? w _ (hcell 0 (by rw [← HN.out]; omega))
        have HCC := Lib.hid hcell
        clear hcell HC
        have HLk := Lib.hid (fromTo_len zs k)
        obtain ⟨wo, rfl⟩ : ∃ wo : World, wo = wr := ⟨_, rfl⟩
        go_wp2
        go_loopw [5, 6] (fun x i wr => ∃ j : Nat, j ≤ k + 1 ∧ i = .int .i64 j ∧ x = .int .i64 (feSum zs k j) ∧ Own wr w.heap.size u3 (fromTo zs k) ∧ Below w.heap.size w wr) (fun _ i _ => k + 1 - (intOf i).toNat)
        case atStart => exact ⟨0, Nat.zero_le _, rfl, rfl, hown, hbel⟩
        case round =>
          obtain ⟨j, hj, rfl, rfl, hown, hbel⟩ := hrel
          have hfs := feSum_bd HB.out (show k ≤ 16 by omega) j (by omega)
          by_cases hlt2 : j ≤ k
          · have h1 : wr.cell? ⟨b, o + j, none⟩ = some (.int .i64 (zs.getD j 0)) := (hbel.cell (p := ⟨b, o + j, none⟩) hbl).trans (HCC.out j (by rw [← HN.out]; omega))
            have hbj := HB.out j
            obtain ⟨x, hx⟩ : ∃ x, x = zs.getD j 0 := ⟨_, rfl⟩
            rw [← hx] at h1 hbj
            have hcb := ch_bd (show k ≤ 16 by omega) (show j ≤ 17 by omega)
            have hmb := ch_mul hcb hbj.1 hbj.2
            have M := Lib.hid (choose_any k j wr.drew (by omega) hlt2)
            have HX := Lib.hid (show feSum zs k (j + 1) = feSum zs k j + (ch k j : Int) * x by rw [hx]; rfl)
            clear hx
            obtain ⟨y, hy⟩ : ∃ y, y = feSum zs k j := ⟨_, rfl⟩
            obtain ⟨c, hc⟩ : ∃ c, c = ch k j := ⟨_, rfl⟩
            rw [← hy] at hfs HX ⊢
            rw [← hc] at hmb HX M hcb
            clear hy hc
            have s1 : (j : Int) < (n : Int) := by omega
            have s0 : (0 : Int) ≤ (j : Int) := by omega
            have s5 : IntKind.i64.wrap ((c : Int) * x) = (c : Int) * x := IntWalk.i64_in _ (by omega)
            have s6 : IntKind.i64.wrap (y + (c : Int) * x) = y + (c : Int) * x := IntWalk.i64_in _ (by omega)
            go_wp2
            refine wp_region_still_tail 10 (by kernel_rfl) (by kernel_rfl) ?_
            simp only [List.take_succ_cons, List.take_zero, List.drop_succ_cons, List.drop_zero]
            iterate 3 still_step
            still_call (M.out.mono fun _ _ h => ⟨h.1, h.2.symm⟩)
            repeat still_step
            refine wpStill_nil ?_
            clear s5 s6 M
            change wpList _ _ _ _ _ wr.drew
            go_wp2
            go_roundw
            case rel => exact ⟨j + 1, by omega, by go_num, by rw [HX.out], hown.drew, hbel.drew⟩
            case measure => simp [intOf]; omega
          · have e : j = k + 1 := by omega
            subst e
            have hz := hbel.size
            go_wp2_with (at_builtin; refine wpList_app rfl _ _ rfl w.heap.size u3 (fromTo zs k) (feSum zs k (k + 1)) rfl hown rfl (by rw [HLk.out]; omega) (by omega) ?_)
            intro v' w1 hown' hg
            have hbel' := below_app hbel hown hz hg
            clear hg hown hbel
            go_wp2
            go_roundw
            case rel => exact ⟨k + 1, by omega, by go_num, hown', hbel'⟩
            case measure => simp [intOf]; omega
      · go_wp2
        go_ret
        have e : k = n := by omega
        subst e
        exact ret_own hown HR.out hbel
  · have hv' : vrow zs = false := by simpa using hv
    have HR := Lib.hid (show resFromEdge zs = [] by rw [resFromEdge, if_neg hv])
    clear hv
    go_enter Try.func27, Try.ntmps27
    go_wp2_with (go_at_call 43; refine (validRow_any _ _ zs h hl).mono ?_; rintro e w' ⟨rfl, rfl⟩)
    go_ret
    exact ret_own (Own.nil _ _) HR.out (Below.refl _ _)
set_option maxHeartbeats 1000000 in
theorem implFromEdge_any (w : World) (v : Value) (zs : List Int) (h : Rd w v zs) (hl : zs.length ≤ 1048576) :
    Calls Try.prog 28 #[v] w fun e w' => ∃ r, e = .returned r ∧ Own w' w.heap.size r (resFromEdge zs) ∧ Below w.heap.size w w' := by
  by_cases hv : vrow zs = true
  · have HR := Lib.hid (show resFromEdge zs = _ by rw [resFromEdge, if_pos hv])
    have hl16 := vrow_len hv
    have HB := Lib.hid (vrow_all hv)
    have h' := h
    obtain ⟨a, cap, rfl, hlc, hm, hc⟩ := h'
    obtain ⟨n, hn⟩ : ∃ n, n = zs.length := ⟨_, rfl⟩
    rw [← hn] at hlc hl16 HR h hl ⊢
    have HH := Lib.hid h
    have HN := Lib.hid hn
    have HC := Lib.hid hc
    have HV := Lib.hid hv
    clear hc hn hm h hl
    have hl : zs.length ≤ 1048576 := by rw [← HN.out]; omega
    go_enter Try.func28, Try.ntmps28
    go_wp2_with (go_at_call 17; refine (implValidRow_any _ _ zs HH.out hl).mono ?_; rintro e w' ⟨rfl, rfl⟩)
    go_loopw [3, 4, 5, 6, 7, 14] (fun u _ _ _ _ i wr => ∃ k : Nat, k ≤ n ∧ i = .int .i64 k ∧ Own wr w.heap.size u (fromTo zs k) ∧ Below w.heap.size w wr) (fun _ _ _ _ _ i _ => n - (intOf i).toNat)
    case atStart => exact ⟨0, Nat.zero_le _, rfl, Own.lit0 w (Nat.le_refl _), (Below.refl _ _).alloc (Nat.le_refl _) _⟩
    case round =>
      obtain ⟨k, hk, rfl, hown, hbel⟩ := hrel
      by_cases hlt : k < n
      · obtain ⟨b, o, rfl, hcell⟩ := HC.out.resolve_left (by intro h0; have := HN.out; rw [h0] at this; simp at this; omega)
        have hbl := World.block_lt_of_cell? w _ (hcell 0 (by rw [← HN.out]; omega))
        have HCC := Lib.hid hcell
        clear hcell HC
        have HLk := Lib.hid (fromTo_len zs k)
        obtain ⟨wo, rfl⟩ : ∃ wo : World, wo = wr := ⟨_, rfl⟩
        have hz := hbel.size
        go_wp2
        go_loop [5, 6, 7] (fun x y i => ∃ j : Nat, j ≤ k + 1 ∧ i = .int .i64 j ∧ x = .int .i64 (feSum zs k j) ∧ y = .int .i64 (ch k j : Nat)) (fun _ _ i => k + 1 - (intOf i).toNat)
        case atStart => exact ⟨0, Nat.zero_le _, rfl, rfl, rfl⟩
        case round =>
          obtain ⟨j, hj, rfl, rfl, rfl⟩ := hrel
          have hfs := feSum_bd HB.out (show k ≤ 16 by omega) j (by omega)
          by_cases hlt2 : j ≤ k
          · have h1 : wo.cell? ⟨b, o + j, none⟩ = some (.int .i64 (zs.getD j 0)) := (hbel.cell (p := ⟨b, o + j, none⟩) hbl).trans (HCC.out j (by rw [← HN.out]; omega))
            have hbj := HB.out j
            obtain ⟨x, hx⟩ : ∃ x, x = zs.getD j 0 := ⟨_, rfl⟩
            rw [← hx] at h1 hbj
            have hcb := ch_bd (show k ≤ 16 by omega) (show j ≤ 17 by omega)
            have hmb := ch_mul hcb hbj.1 hbj.2
            obtain ⟨p, hp, hp2, hp3⟩ := ch_step (show k ≤ 16 by omega) hlt2
            have HX := Lib.hid (show feSum zs k (j + 1) = feSum zs k j + (ch k j : Int) * x by rw [hx]; rfl)
            have HP := Lib.hid hp3
            clear hx hp3
            obtain ⟨y, hy⟩ : ∃ y, y = feSum zs k j := ⟨_, rfl⟩
            obtain ⟨c, hc⟩ : ∃ c, c = ch k j := ⟨_, rfl⟩
            rw [← hy] at hfs HX ⊢
            rw [← hc] at hmb HX hcb hp ⊢
            clear hy hc
            have d0 : p / (j + 1) ≤ p := Nat.div_le_self _ _
            have d1 : (p : Int) / ((j : Int) + 1) = ((p / (j + 1) : Nat) : Int) := rfl
            have d2 : (0 : Int) ≤ (p : Int) / ((j : Int) + 1) := by rw [d1]; exact Int.natCast_nonneg _
            have d3 : (p : Int) / ((j : Int) + 1) ≤ 300000 := by rw [d1]; exact Int.ofNat_le.2 (Nat.le_trans d0 hp2)
            clear d0 d1
            go_wp2
            go_round
            case rel => exact ⟨j + 1, by omega, by go_num, by rw [HX.out], by rw [HP.out]; rfl⟩
            case measure => simp [intOf]; omega
          · have e : j = k + 1 := by omega
            subst e
            go_wp2_with (at_builtin; refine wpList_app rfl _ _ rfl w.heap.size u3 (fromTo zs k) (feSum zs k (k + 1)) rfl hown rfl (by rw [HLk.out]; omega) (by omega) ?_)
            intro v' w1 hown' hg
            have hbel' := below_app hbel hown hz hg
            clear hg hown hbel
            go_wp2
            go_roundw
            case rel => exact ⟨k + 1, by omega, by go_num, hown', hbel'⟩
            case measure => simp [intOf]; omega
      · go_wp2
        go_ret
        have e : k = n := by omega
        subst e
        exact ret_own hown HR.out hbel
  · have hv' : vrow zs = false := by simpa using hv
    have HR := Lib.hid (show resFromEdge zs = [] by rw [resFromEdge, if_neg hv])
    clear hv
    go_enter Try.func28, Try.ntmps28
    go_wp2_with (go_at_call 17; refine (implValidRow_any _ _ zs h hl).mono ?_; rintro e w' ⟨rfl, rfl⟩)
    go_ret
    exact ret_own (Own.nil _ _) HR.out (Below.refl _ _)
end Go.Proofs.Ytdlmkcaecadcoaa
