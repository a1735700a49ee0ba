/- BoxSums: the reference and the program return the sums of numbers side by side. Conditions: at most 1048576 numbers. -/
import Derived.Test.YtdlmkcaecadcoaaRow1
import Derived.Test.YtdlmkcaecadcoaaMem
namespace Go.Proofs.Ytdlmkcaecadcoaa
open Go.RowKit
/-- The sum of j numbers from index i on. -/
def bxSum (zs : List Int) (i : Nat) : Nat → Int
  | 0 => 0
  | j + 1 => bxSum zs i j + zs.getD (i + j) 0
/-- The first i sums. -/
def bxTo (zs : List Int) (k : Nat) : Nat → List Int
  | 0 => []
  | i + 1 => bxTo zs k i ++ [bxSum zs i k]
theorem bxTo_len (zs : List Int) (k i : Nat) : (bxTo zs k i).length = i := by
  induction i with
  | zero => rfl
  | succ i ih => simp [bxTo, ih]
theorem bxSum_bd {zs : List Int} (h : ∀ j, -1000 ≤ zs.getD j 0 ∧ zs.getD j 0 ≤ 1000) (i j : Nat) : -(1000 * (j : Int)) ≤ bxSum zs i j ∧ bxSum zs i j ≤ 1000 * j := by
  induction j with
  | zero => simp [bxSum]
  | succ j ih => have := h (i + j); simp only [bxSum]; omega
def okBoxSums (zs : List Int) (k : Int) : Bool := vrow zs && inB 1 zs.length k
def resBoxSums (zs : List Int) (k : Int) : List Int := if okBoxSums zs k = true then bxTo zs k.toNat (zs.length + 1 - k.toNat) else []
theorem resBoxSums_len (zs : List Int) (k : Int) : (resBoxSums zs k).length ≤ 1048576 := by
  unfold resBoxSums
  split
  · rename_i h
    simp only [okBoxSums, Bool.and_eq_true] at h
    rw [bxTo_len]; have := vrow_len h.1; omega
  · simp
theorem boxed_any (w : World) (v : Value) (zs : List Int) (h : Rd w v zs) (hl : zs.length ≤ 1048576) (k : Int) :
    Calls Try.prog 50 #[v, .int .i64 k] w fun e w' => e = .returned (.bool (okBoxSums zs k)) ∧ w = w' := by
  have h' := h
  obtain ⟨a, cap, rfl, hlc, hm, hc⟩ := h'
  by_cases hv : vrow zs = true
  · by_cases hb0 : 1 ≤ k
    · have HR := Lib.hid (show okBoxSums zs k = decide (k ≤ (zs.length : Int)) by simp [okBoxSums, hv, inB, hb0])
      obtain ⟨n, hn⟩ : ∃ n, n = zs.length := ⟨_, rfl⟩
      rw [← hn] at h hlc HR ⊢
      have HH := Lib.hid h
      clear hc hm h hn
      go_enter Try.func50, Try.ntmps50
      go_wp2_with (go_at_call 17; refine (implValidRow_any _ _ zs HH.out hl).mono ?_; rintro e w' ⟨rfl, rfl⟩)
      go_ret
      exact ⟨ret_bool HR.out.symm, rfl⟩
    · have HR := Lib.hid (show okBoxSums zs k = false by simp [okBoxSums, inB, hb0])
      go_enter Try.func50, Try.ntmps50
      go_wp2_with (go_at_call 17; refine (implValidRow_any _ _ zs h hl).mono ?_; rintro e w' ⟨rfl, rfl⟩)
      go_ret
      exact ⟨ret_bool HR.out.symm, rfl⟩
  · have hv' : vrow zs = false := by simpa using hv
    have HR := Lib.hid (show okBoxSums zs k = false by simp [okBoxSums, hv'])
    clear hv
    go_enter Try.func50, Try.ntmps50
    go_wp2_with (go_at_call 17; refine (implValidRow_any _ _ zs h hl).mono ?_; rintro e w' ⟨rfl, rfl⟩)
    go_ret
    exact ⟨ret_bool HR.out.symm, rfl⟩
set_option maxHeartbeats 1600000 in
theorem specBoxSums_any (w : World) (v : Value) (zs : List Int) (h : Rd w v zs) (hl : zs.length ≤ 1048576) (k : Int) :
    Calls Try.prog 39 #[v, .int .i64 k] w fun e w' => ∃ r, e = .returned r ∧ Own w' w.heap.size r (resBoxSums zs k) ∧ Below w.heap.size w w' := by
  by_cases hok : okBoxSums zs k = true
  · have hok' := hok
    simp only [okBoxSums, Bool.and_eq_true, inB, decide_eq_true_eq] at hok'
    obtain ⟨hv, hb0, hb1⟩ := hok'
    obtain ⟨q, rfl⟩ := Int.eq_ofNat_of_zero_le (show 0 ≤ k by omega)
    have HR := Lib.hid (show resBoxSums zs q = bxTo zs q (zs.length + 1 - q) by rw [resBoxSums, if_pos hok]; rfl)
    have hl16 := vrow_len hv
    have HB := Lib.hid (vrow_all hv)
    have h' := h
    obtain ⟨a, cap, rfl, hlc, hm, hc⟩ := h'
    obtain ⟨b, o, rfl, hcell⟩ := hc.resolve_left (by intro h0; rw [h0] at hb1; simp at hb1; omega)
    have hbl := World.block_lt_of_cell? w _ (hcell 0 (by omega))
    obtain ⟨n, hn⟩ : ∃ n, n = zs.length := ⟨_, rfl⟩
    rw [← hn] at hlc hl16 HR h hl hb1 hcell ⊢
    have HH := Lib.hid h
    have HN := Lib.hid hn
    have HC := Lib.hid hcell
    have HOK := Lib.hid hok
    have q1 : 1 ≤ q := by omega
    have q2 : q ≤ n := by omega
    have hz0 : ¬ zs.length = 0 := by omega
    clear hc hn hm h hl hcell hb0 hb1 hok
    have hl : zs.length ≤ 1048576 := by rw [← HN.out]; omega
    go_enter Try.func39, Try.ntmps39
    go_wp2_with (first | (go_at_call 43; refine (validRow_any _ _ zs HH.out hl).mono ?_; rintro e w' ⟨rfl, rfl⟩) | (go_at_call 49; refine (inRange_yes _ _ _ _ (by omega) (by omega)).mono ?_; rintro e w' ⟨rfl, rfl⟩))
    go_loopw [5, 6, 7, 8] (fun u i _ _ wr => ∃ k : Nat, k ≤ n + 1 - q ∧ i = .int .i64 k ∧ Own wr w.heap.size u (bxTo zs q k) ∧ Below w.heap.size w wr) (fun _ i _ _ _ => n + 1 - (intOf i).toNat)
    case atStart => exact ⟨0, Nat.zero_le _, rfl, Own.lit0 w (Nat.le_refl _), (Below.refl _ _).alloc (Nat.le_refl _) _⟩
    case round =>
      obtain ⟨k, hk, rfl, hown, hbel⟩ := hrel
      have HLk := Lib.hid (bxTo_len zs q k)
      by_cases hlt : k + q ≤ n
      · obtain ⟨wo, rfl⟩ : ∃ wo : World, wo = wr := ⟨_, rfl⟩
        go_wp2
        go_loop [7, 8] (fun x i => ∃ j : Nat, j ≤ q ∧ i = .int .i64 ((k : Int) + j) ∧ x = .int .i64 (bxSum zs k j)) (fun _ i => k + q - (intOf i).toNat)
        case atStart => exact ⟨0, Nat.zero_le _, by go_num, rfl⟩
        case round =>
          obtain ⟨j, hj, rfl, rfl⟩ := hrel
          have hfs := bxSum_bd HB.out k j
          by_cases hlt2 : j < q
          · have h1 : wo.cell? ⟨b, o + (k + j), none⟩ = some (.int .i64 (zs.getD (k + j) 0)) := (hbel.cell (p := ⟨b, o + (k + j), none⟩) hbl).trans (HC.out (k + j) (by omega))
            have hb1 := HB.out (k + j)
            obtain ⟨x, hx⟩ : ∃ x, x = zs.getD (k + j) 0 := ⟨_, rfl⟩
            rw [← hx] at h1 hb1
            have HX := Lib.hid (show bxSum zs k (j + 1) = bxSum zs k j + x by rw [hx]; rfl)
            clear hx
            have s3 : ((k : Int) + (j : Int)).toNat = k + j := by omega
            go_wp2
            clear s3
            go_round
            case rel => exact ⟨j + 1, by omega, by go_num, by rw [HX.out]⟩
            case measure => simp [intOf]; omega
          · have e : j = q := by omega
            subst e
            have hz := hbel.size
            clear hlt2 hj
            go_wp2_with (at_builtin; refine wpList_app rfl _ _ rfl w.heap.size u5 (bxTo zs j k) (bxSum zs k j) rfl hown rfl (by rw [HLk.out]; omega) (by omega) ?_)
            intro v' w1 hown' hg
            have hbel' := below_app hbel hown hz hg
            clear hg hown hbel
            go_wp2
            go_roundw
            case rel => exact ⟨k + 1, by omega, by go_num, hown', hbel'⟩
            case measure => simp [intOf]; omega
      · go_wp2
        go_ret
        have e : k = n + 1 - q := by omega
        exact ret_own hown (by rw [HR.out, e]) hbel
  · have HR := Lib.hid (show resBoxSums zs k = [] by rw [resBoxSums, if_neg hok])
    by_cases hv : vrow zs = true
    · have hb' : k < 1 ∨ (zs.length : Int) < k := by simp [okBoxSums, hv, inB] at hok; omega
      have h' := h
      obtain ⟨a, cap, rfl, hlc, hm, hc⟩ := h'
      obtain ⟨n, hn⟩ : ∃ n, n = zs.length := ⟨_, rfl⟩
      rw [← hn] at hlc h hb' ⊢
      have HH := Lib.hid h
      have HB' := Lib.hid hb'
      clear hc hn hm h hok hb'
      go_enter Try.func39, Try.ntmps39
      go_wp2_with (first | (go_at_call 43; refine (validRow_any _ _ zs HH.out hl).mono ?_; rintro e w' ⟨rfl, rfl⟩) | (go_at_call 49; refine (inRange_no _ _ _ _ HB'.out).mono ?_; rintro e w' ⟨rfl, rfl⟩))
      go_ret
      exact ret_own (Own.nil _ _) HR.out (Below.refl _ _)
    · have hv' : vrow zs = false := by simpa using hv
      clear hv hok
      go_enter Try.func39, Try.ntmps39
      go_wp2_with (go_at_call 43; refine (validRow_any _ _ zs h hl).mono ?_; rintro e w' ⟨rfl, rfl⟩)
      go_ret
      exact ret_own (Own.nil _ _) HR.out (Below.refl _ _)
set_option maxHeartbeats 1600000 in
theorem implBoxSums_any (w : World) (v : Value) (zs : List Int) (h : Rd w v zs) (hl : zs.length ≤ 1048576) (k : Int) :
    Calls Try.prog 40 #[v, .int .i64 k] w fun e w' => ∃ r, e = .returned r ∧ Own w' w.heap.size r (resBoxSums zs k) ∧ Below w.heap.size w w' := by
  by_cases hok : okBoxSums zs k = true
  · have hok' := hok
    simp only [okBoxSums, Bool.and_eq_true, inB, decide_eq_true_eq] at hok'
    obtain ⟨hv, hb0, hb1⟩ := hok'
    obtain ⟨q, rfl⟩ := Int.eq_ofNat_of_zero_le (show 0 ≤ k by omega)
    have HR := Lib.hid (show resBoxSums zs q = bxTo zs q (zs.length + 1 - q) by rw [resBoxSums, if_pos hok]; rfl)
    have hl16 := vrow_len hv
    have HB := Lib.hid (vrow_all hv)
    have h' := h
    obtain ⟨a, cap, rfl, hlc, hm, hc⟩ := h'
    obtain ⟨b, o, rfl, hcell⟩ := hc.resolve_left (by intro h0; rw [h0] at hb1; simp at hb1; omega)
    have hbl := World.block_lt_of_cell? w _ (hcell 0 (by omega))
    obtain ⟨n, hn⟩ : ∃ n, n = zs.length := ⟨_, rfl⟩
    rw [← hn] at hlc hl16 HR h hl hb1 hcell ⊢
    have HH := Lib.hid h
    have HN := Lib.hid hn
    have HC := Lib.hid hcell
    have q1 : 1 ≤ q := by omega
    have q2 : q ≤ n := by omega
    have hz0 : ¬ zs.length = 0 := by omega
    clear hc hn hm h hl hcell hb0 hb1 hv
    have hl : zs.length ≤ 1048576 := by rw [← HN.out]; omega
    go_enter Try.func40, Try.ntmps40
    go_wp2_with (go_at_call 50; refine (boxed_any _ _ zs HH.out hl q).mono ?_; rintro e w' ⟨rfl, rfl⟩)
    go_loopw [5, 6, 7, 9] (fun u i _ _ wr => ∃ k : Nat, k ≤ n + 1 - q ∧ i = .int .i64 k ∧ Own wr w.heap.size u (bxTo zs q k) ∧ Below w.heap.size w wr) (fun _ i _ _ _ => n + 1 - (intOf i).toNat)
    case atStart => exact ⟨0, Nat.zero_le _, rfl, Own.lit0 w (Nat.le_refl _), (Below.refl _ _).alloc (Nat.le_refl _) _⟩
    case round =>
      obtain ⟨k, hk, rfl, hown, hbel⟩ := hrel
      have HLk := Lib.hid (bxTo_len zs q k)
      by_cases hlt : k + q ≤ n
      · obtain ⟨wo, rfl⟩ : ∃ wo : World, wo = wr := ⟨_, rfl⟩
        have s1 : (k : Int) ≤ (k : Int) + (q : Int) := by omega
        have s2 : (k : Int) + (q : Int) ≤ (cap : Int) := by omega
        have s3 : ((k : Int) + (q : Int)).toNat = k + q := by omega
        have s4 : k + q - k = q := by omega
        have s5 : ¬ cap = k := by omega
        have s6 : (k : Int) + (q : Int) ≤ (n : Int) := by omega
        go_wp2
        clear s3 s4 s5
        go_loop [7, 9, 30] (fun x _ i => ∃ j : Nat, j ≤ q ∧ i = .int .i64 j ∧ x = .int .i64 (bxSum zs k j)) (fun _ _ i => q - (intOf i).toNat)
        case atStart => exact ⟨0, Nat.zero_le _, rfl, rfl⟩
        case round =>
          obtain ⟨j, hj, rfl, rfl⟩ := hrel
          have hfs := bxSum_bd HB.out k j
          by_cases hlt2 : j < q
          · have h1 : wo.cell? ⟨b, o + k + j, none⟩ = some (.int .i64 (zs.getD (k + j) 0)) := by
              rw [Nat.add_assoc]
              exact (hbel.cell (p := ⟨b, o + (k + j), none⟩) hbl).trans (HC.out (k + j) (by omega))
            have hb1 := HB.out (k + j)
            obtain ⟨x, hx⟩ : ∃ x, x = zs.getD (k + j) 0 := ⟨_, rfl⟩
            rw [← hx] at h1 hb1
            have HX := Lib.hid (show bxSum zs k (j + 1) = bxSum zs k j + x by rw [hx]; rfl)
            clear hx
            go_wp2
            go_round
            case rel => exact ⟨j + 1, by omega, by go_num, by rw [HX.out]⟩
            case measure => simp [intOf]; omega
          · have e : j = q := by omega
            subst e
            have hz := hbel.size
            clear hlt2 hj
            go_wp2_with (at_builtin; refine wpList_app rfl _ _ rfl w.heap.size u5 (bxTo zs j k) (bxSum zs k j) rfl hown rfl (by rw [HLk.out]; omega) (by omega) ?_)
            intro v' w1 hown' hg
            have hbel' := below_app hbel hown hz hg
            clear hg hown hbel
            go_wp2
            go_roundw
            case rel => exact ⟨k + 1, by omega, by go_num, hown', hbel'⟩
            case measure => simp [intOf]; omega
      · go_wp2
        go_ret
        have e : k = n + 1 - q := by omega
        exact ret_own hown (by rw [HR.out, e]) hbel
  · have HR := Lib.hid (show resBoxSums zs k = [] by rw [resBoxSums, if_neg hok])
    have hv' : okBoxSums zs k = false := by simpa using hok
    clear hok
    go_enter Try.func40, Try.ntmps40
    go_wp2_with (go_at_call 50; refine (boxed_any _ _ zs h hl k).mono ?_; rintro e w' ⟨rfl, rfl⟩)
    go_ret
    exact ret_own (Own.nil _ _) HR.out (Below.refl _ _)
end Go.Proofs.Ytdlmkcaecadcoaa
