/- UnhalveOf: the reference and the program return the same rows. Conditions: at most 1048576 numbers. -/
import Derived.Test.YtjakoeamnmdcmaaHalve4
namespace Go.Proofs.Ytjakoeamnmdcmaa
open Go.RowKit
/-- The first number of the i-th pair. -/
def uhX (zs : List Int) (m i : Nat) : Int := zs.getD i 0 - zs.getD (m + i) 0 / 2
def uhY (zs : List Int) (m i : Nat) : Int := uhX zs m i + zs.getD (m + i) 0
/-- The first i pairs. -/
def uhTo (zs : List Int) (m : Nat) : Nat → List Int
  | 0 => []
  | i + 1 => uhTo zs m i ++ [uhX zs m i, uhY zs m i]
theorem uhTo_len (zs : List Int) (m i : Nat) : (uhTo zs m i).length = 2 * i := by
  induction i with
  | zero => rfl
  | succ i ih => simp [uhTo, ih]; omega
def uhF (zs : List Int) (m j : Nat) : Int := if j % 2 = 0 then uhX zs m (j / 2) else uhY zs m (j / 2)
theorem uhTo_tab (zs : List Int) (m i : Nat) : uhTo zs m i = tab (2 * i) (uhF zs m) := by
  induction i with
  | zero => rfl
  | succ i ih =>
    rw [show 2 * (i + 1) = 2 * i + 1 + 1 by omega, tab_snoc, tab_snoc, ← ih]
    simp only [uhTo, uhF, List.append_assoc, List.cons_append, List.nil_append]
    rw [if_pos (by omega), if_neg (by omega)]
    rw [show 2 * i / 2 = i by omega, show (2 * i + 1) / 2 = i by omega]
/-- The row while the program puts together: i pairs are done. -/
def uhI (zs : List Int) (m i j : Nat) : Int := if j < 2 * i then uhF zs m j else 0
theorem uhI_first (zs : List Int) (m j : Nat) : uhI zs m 0 j = 0 := by unfold uhI; rw [if_neg (by omega)]
theorem uhI_step (zs : List Int) (m i j : Nat) : uhI zs m (i + 1) j = if j = 2 * i + 1 then uhY zs m i else if j = 2 * i then uhX zs m i else uhI zs m i j := by
  unfold uhI
  by_cases h1 : j = 2 * i + 1
  · subst h1; rw [if_pos (by omega), if_pos rfl]; unfold uhF; rw [if_neg (by omega), show (2 * i + 1) / 2 = i by omega]
  · rw [if_neg h1]
    by_cases h2 : j = 2 * i
    · subst h2; rw [if_pos (by omega), if_pos rfl]; unfold uhF; rw [if_pos (by omega), show (2 * i) / 2 = i by omega]
    · rw [if_neg h2]
      by_cases h3 : j < 2 * i
      · rw [if_pos (by omega), if_pos h3]
      · rw [if_neg (by omega), if_neg h3]
theorem uhI_last {zs : List Int} {m j : Nat} (h : j < 2 * m) : uhF zs m j = uhI zs m m j := by unfold uhI; rw [if_pos h]
def uhL (zs : List Int) (m : Nat) : List Int := tab (2 * m) (uhF zs m)
def resUnhalveOf (zs : List Int) : List Int := if evRow zs = true then uhL zs (zs.length / 2) else []
theorem resUnhalveOf_len (zs : List Int) : (resUnhalveOf zs).length ≤ 1048576 := by
  unfold resUnhalveOf
  split
  · rename_i h; have := vrow_len (evRow_row h); rw [uhL, tab_len]; omega
  · simp
set_option maxHeartbeats 1600000 in
theorem unhalve_any (w : World) (v : Value) (zs : List Int) (h : Rd w v zs) (hv : evRow zs = true) :
    Calls Try.prog 41 #[v] w fun e w' => ∃ r, e = .returned r ∧ Own w' w.heap.size r (uhL zs (zs.length / 2)) ∧ Below w.heap.size w w' := by
  obtain ⟨m, hm2, hm8⟩ := evRow_half hv
  have HB := Lib.hid (vrow_all (evRow_row hv))
  obtain ⟨a, cap, rfl, hlc, hm, hc⟩ := h
  have hh : zs.length / 2 = m := by omega
  rw [hh]
  have HH2 := Lib.hid hm2
  obtain ⟨n, hn⟩ : ∃ n, n = zs.length := ⟨_, rfl⟩
  rw [← hn] at hlc hm2 HH2 ⊢
  have HN := Lib.hid hn
  have HC := Lib.hid hc
  have n1 : n ≤ 2 * m := by omega
  have n2 : 2 * m ≤ n := by omega
  clear hc hn hm hv hh hm2
  have hnm : (n : Int) / 2 = (m : Int) := by omega
  go_enter Try.func41, Try.ntmps41
  go_wp2
  clear hnm
  go_loopw [3, 5, 6] (fun u i _ wr => ∃ k : Nat, k ≤ m ∧ i = .int .i64 (k : Int) ∧ Own wr w.heap.size u (uhTo zs m k) ∧ Below w.heap.size w wr) (fun _ i _ _ => m - (intOf i).toNat)
  case atStart => exact ⟨0, Nat.zero_le _, rfl, Own.lit0 w (Nat.le_refl _), (Below.refl _ _).alloc (Nat.le_refl _) _⟩
  case round =>
    obtain ⟨i, hi, rfl, hown, hbel⟩ := hrel
    by_cases hlt : i < m
    · obtain ⟨b, o, rfl, hcell⟩ := HC.out.resolve_left (by intro h0; have := HN.out; rw [h0] at this; simp at this; omega)
      have hbl := World.block_lt_of_cell? w _ (hcell 0 (by rw [← HN.out]; omega))
      have hx2 := HB.out i
      have hy2 := HB.out (m + i)
      have h1 : wr.cell? ⟨b, o + i, none⟩ = some (.int .i64 (zs.getD i 0)) := (hbel.cell (p := ⟨b, o + i, none⟩) hbl).trans (hcell i (by rw [← HN.out]; omega))
      have h2 : wr.cell? ⟨b, o + (m + i), none⟩ = some (.int .i64 (zs.getD (m + i) 0)) := (hbel.cell (p := ⟨b, o + (m + i), none⟩) hbl).trans (hcell (m + i) (by rw [← HN.out]; omega))
      clear hcell HC
      have HX := Lib.hid (show uhX zs m i = zs.getD i 0 - zs.getD (m + i) 0 / 2 from rfl)
      have HY := Lib.hid (show uhY zs m i = uhX zs m i + zs.getD (m + i) 0 from rfl)
      obtain ⟨x, hx⟩ : ∃ x, x = zs.getD i 0 := ⟨_, rfl⟩
      rw [← hx] at h1 hx2 HX
      obtain ⟨y, hy⟩ : ∃ y, y = zs.getD (m + i) 0 := ⟨_, rfl⟩
      rw [← hy] at h2 hy2 HX HY
      rw [HX.out] at HY
      clear hx hy
      have s0 : (0 : Int) ≤ (i : Int) := by omega
      have s1 : (i : Int) < (n : Int) := by omega
      have s2 : (m : Int) + (i : Int) < (n : Int) := by omega
      have s3 : ((m : Int) + (i : Int)).toNat = m + i := by omega
      have s4 : (0 : Int) ≤ (m : Int) + (i : Int) := by omega
      have s5 : IntKind.i64.wrap ((m : Int) + (i : Int)) = (m : Int) + (i : Int) := IntWalk.i64_in _ (by omega)
      have s6 : IntKind.i64.wrap (x - y / 2) = x - y / 2 := IntWalk.i64_in _ (by omega)
      have s7 : IntKind.i64.wrap (x - y / 2 + y) = x - y / 2 + y := IntWalk.i64_in _ (by omega)
      have HS := Lib.hid (show uhTo zs m (i + 1) = uhTo zs m i ++ [x - y / 2, x - y / 2 + y] by show uhTo zs m i ++ [uhX zs m i, uhY zs m i] = _; rw [HX.out, HY.out])
      have HLk := Lib.hid (uhTo_len zs m i)
      have M := Lib.hid (floor_any y wr.drew (by omega) (by omega))
      go_wp2
      refine wp_region_still_tail 12 (by kernel_rfl) (by kernel_rfl) ?_
      simp only [List.take_succ_cons, List.take_zero, List.drop_succ_cons, List.drop_zero]
      iterate 10 still_step
      still_call (M.out.mono fun _ _ h => ⟨h.1, h.2.symm⟩)
      repeat still_step
      refine wpStill_nil ?_
      change wpList _ _ _ _ _ wr.drew
      have hown0 : Own wr.drew w.heap.size u3 (uhTo zs m i) := hown.drew
      have hbel0 : Below w.heap.size w wr.drew := hbel.drew
      have h2' : wr.drew.cell? ⟨b, o + (m + i), none⟩ = some (.int .i64 y) := h2
      generalize wr.drew = wd at hown0 hbel0 h2' ⊢
      clear h1 h2 hown hbel M
      have hz := hbel0.size
      go_wp2_with (at_builtin; refine wpList_cat rfl _ _ rfl w.heap.size u3 _ (uhTo zs m i) [x - y / 2, x - y / 2 + y] rfl (hown0.alloc' _) rfl (Own.lit (Nat.le_refl _) [x - y / 2, x - y / 2 + y] (by unfold maxLen; simp)).rd (by rw [HLk.out]; simp; omega) (by simp; omega) ?_)
      intro v' w1 hown1 hg
      have hbel1 := below_app hbel0 hown0 hz hg
      clear hg hown0 hbel0 h2' hz s3 s5 s6 s7
      go_wp2
      go_roundw
      case rel => exact ⟨i + 1, by omega, by go_num, by rw [HS.out]; exact hown1, hbel1⟩
      case measure => simp [intOf]; omega
    · have e : i = m := by omega
      have HR := Lib.hid (show uhL zs m = uhTo zs m i by rw [uhL, e, uhTo_tab])
      clear e
      go_wp2
      go_ret
      exact ret_own hown HR.out hbel
set_option maxHeartbeats 400000 in
theorem specUnhalveOf_any (w : World) (v : Value) (zs : List Int) (h : Rd w v zs) (hl : zs.length ≤ 1048576) :
    Calls Try.prog 22 #[v] w fun e w' => ∃ r, e = .returned r ∧ Own w' w.heap.size r (resUnhalveOf zs) ∧ Below w.heap.size w w' := by
  by_cases hv : evRow zs = true
  · have HR := Lib.hid (show resUnhalveOf zs = _ by rw [resUnhalveOf, if_pos hv])
    go_enter Try.func22, Try.ntmps22
    go_wp2_with (first | (go_at_call 37; refine (validEven_any _ _ zs h hl).mono ?_; rintro e w' ⟨rfl, rfl⟩) | (go_at_call 41; refine (unhalve_any _ _ zs h hv).mono ?_; rintro e w' ⟨r, rfl, hr, hb⟩))
    go_ret
    exact ret_own hr HR.out hb
  · have hv' : evRow zs = false := by simpa using hv
    have HR := Lib.hid (show resUnhalveOf zs = [] by rw [resUnhalveOf, if_neg hv])
    clear hv
    go_enter Try.func22, Try.ntmps22
    go_wp2_with (go_at_call 37; refine (validEven_any _ _ zs h hl).mono ?_; rintro e w' ⟨rfl, rfl⟩)
    go_ret
    exact ret_own (Own.nil _ _) HR.out (Below.refl _ _)
set_option maxHeartbeats 1600000 in
theorem implUnhalve_any (w : World) (v : Value) (zs : List Int) (h : Rd w v zs) (hv : evRow zs = true) :
    Calls Try.prog 42 #[v] w fun e w' => ∃ r, e = .returned r ∧ Own w' w.heap.size r (uhL zs (zs.length / 2)) ∧ Below w.heap.size w w' := by
  obtain ⟨m, hm2, hm8⟩ := evRow_half hv
  have HB := Lib.hid (vrow_all (evRow_row hv))
  obtain ⟨a, cap, rfl, hlc, hm, hc⟩ := h
  have hh : zs.length / 2 = m := by omega
  rw [hh]
  have HH2 := Lib.hid hm2
  obtain ⟨n, hn⟩ : ∃ n, n = zs.length := ⟨_, rfl⟩
  rw [← hn] at hlc hm2 HH2 ⊢
  have HN := Lib.hid hn
  have HC := Lib.hid hc
  have n1 : n ≤ 2 * m := by omega
  have n2 : 2 * m ≤ n := by omega
  clear hc hn hm hv hh hm2
  have hnm : (n : Int) / 2 = (m : Int) := by omega
  go_enter Try.func42, Try.ntmps42
  go_wp2_with (at_make; refine wpList_mk rfl _ _ rfl n rfl rfl (by omega) ?_)
  intro w1 hrow hgrow
  have hb1 : Below w.heap.size w w1 := (Below.refl _ _).grown hgrow (Nat.le_refl _) (by simp)
  rw [tab_zero] at hrow
  clear hgrow
  go_wp2
  clear hnm
  go_loopw [5, 13] (fun _ i wr => ∃ k : Nat, k ≤ m ∧ i = .int .i64 (k : Int) ∧ Row wr w.heap.size w.heap.size n n (tab n (uhI zs m k)) ∧ Below w.heap.size w wr) (fun _ i _ => m - (intOf i).toNat)
  case atStart => exact ⟨0, Nat.zero_le _, rfl, hrow.to fun j _ => uhI_first zs m j, hb1⟩
  case round =>
    obtain ⟨i, hi, rfl, hr, hbel⟩ := hrel
    clear hrow hb1
    by_cases hlt : i < m
    · obtain ⟨b, o, rfl, hcell⟩ := HC.out.resolve_left (by intro h0; have := HN.out; rw [h0] at this; simp at this; omega)
      have hbl := World.block_lt_of_cell? w _ (hcell 0 (by rw [← HN.out]; omega))
      have hx2 := HB.out i
      have hy2 := HB.out (m + i)
      have h1 : wr.cell? ⟨b, o + i, none⟩ = some (.int .i64 (zs.getD i 0)) := (hbel.cell (p := ⟨b, o + i, none⟩) hbl).trans (hcell i (by rw [← HN.out]; omega))
      have h2 : wr.cell? ⟨b, o + (m + i), none⟩ = some (.int .i64 (zs.getD (m + i) 0)) := (hbel.cell (p := ⟨b, o + (m + i), none⟩) hbl).trans (hcell (m + i) (by rw [← HN.out]; omega))
      clear hcell HC
      have HX := Lib.hid (show uhX zs m i = zs.getD i 0 - zs.getD (m + i) 0 / 2 from rfl)
      have HY := Lib.hid (show uhY zs m i = uhX zs m i + zs.getD (m + i) 0 from rfl)
      obtain ⟨x, hx⟩ : ∃ x, x = zs.getD i 0 := ⟨_, rfl⟩
      rw [← hx] at h1 hx2 HX
      obtain ⟨y, hy⟩ : ∃ y, y = zs.getD (m + i) 0 := ⟨_, rfl⟩
      rw [← hy] at h2 hy2 HX HY
      rw [HX.out] at HY
      clear hx hy
      have s0 : (0 : Int) ≤ (i : Int) := by omega
      have s1 : (i : Int) < (n : Int) := by omega
      have s2 : (m : Int) + (i : Int) < (n : Int) := by omega
      have s3 : ((m : Int) + (i : Int)).toNat = m + i := by omega
      have s4 : (0 : Int) ≤ (m : Int) + (i : Int) := by omega
      have s5 : IntKind.i64.wrap ((m : Int) + (i : Int)) = (m : Int) + (i : Int) := IntWalk.i64_in _ (by omega)
      have s6 : IntKind.i64.wrap (x - y / 2) = x - y / 2 := IntWalk.i64_in _ (by omega)
      have s7 : IntKind.i64.wrap (x - y / 2 + y) = x - y / 2 + y := IntWalk.i64_in _ (by omega)
      have HS : Hid (∀ j, j < n → uhI zs m (i + 1) j = if j = 2 * i + 1 then x - y / 2 + y else if j = 2 * i then x - y / 2 else uhI zs m i j) := fun j _ => by rw [uhI_step zs m i j, HY.out, HX.out]
      clear HX HY
      have M := Lib.hid (down_any y wr.drew (by omega) (by omega))
      have t1 : 2 * (i : Int) < (n : Int) := by omega
      have t2 : 2 * (i : Int) + 1 < (n : Int) := by omega
      have t3 : (2 * (i : Int)).toNat = 2 * i := by omega
      have t4 : (2 * (i : Int) + 1).toNat = 2 * i + 1 := by omega
      have t5 : (0 : Int) ≤ 2 * (i : Int) := by omega
      have t6 : (0 : Int) ≤ 2 * (i : Int) + 1 := by omega
      have t7 : IntKind.i64.wrap (2 * (i : Int)) = 2 * (i : Int) := IntWalk.i64_in _ (by omega)
      have t8 : IntKind.i64.wrap (2 * (i : Int) + 1) = 2 * (i : Int) + 1 := IntWalk.i64_in _ (by omega)
      have k1 := hr.getT (2 * i) (by omega)
      have k2 := hr.free (2 * i)
      go_wp2
      refine wp_region_still_tail 16 (by kernel_rfl) (by kernel_rfl) ?_
      simp only [List.take_succ_cons, List.take_zero, List.drop_succ_cons, List.drop_zero]
      iterate 13 still_step
      still_call (M.out.mono fun _ _ h => ⟨h.1, h.2.symm⟩)
      repeat still_step
      refine wpStill_nil ?_
      change wpList _ _ _ _ _ wr.drew
      have hr0 : Row wr.drew w.heap.size w.heap.size n n (tab n (uhI zs m i)) := hr
      have hbel0 : Below w.heap.size w wr.drew := hbel.drew
      have h2' : wr.drew.cell? ⟨b, o + (m + i), none⟩ = some (.int .i64 y) := h2
      generalize wr.drew = wx at hr0 hbel0 h2' ⊢
      clear h1 h2 hr hbel M k1 k2
      have k1 := hr0.getT (2 * i) (by omega)
      have k2 := hr0.free (2 * i)
      have hne : b ≠ w.heap.size := by omega
      have hr1 := hr0.setT (2 * i) (x - y / 2) (f' := fun j => if j = 2 * i then x - y / 2 else uhI zs m i j) (fun _ _ => rfl)
      have hbel1 := hbel0.setCell (p := ⟨w.heap.size, 2 * i, none⟩) (Nat.le_refl _) (.int .i64 (x - y / 2))
      have h2'' : (wx.setCell ⟨w.heap.size, 2 * i, none⟩ (.int .i64 (x - y / 2))).cell? ⟨b, o + (m + i), none⟩ = some (.int .i64 y) := by
        rw [World.cell?_setCell_other _ _ _ _ (by intro e; simp at e)]; exact h2'
      go_wp2
      generalize wx.setCell ⟨w.heap.size, 2 * i, none⟩ (.int .i64 (x - y / 2)) = wy at hr1 hbel1 h2'' ⊢
      clear hr0 hbel0 h2' k1 k2
      have k1 := hr1.getT (2 * i) (by omega)
      rw [if_pos rfl] at k1
      have k3 := hr1.getT (2 * i + 1) (by omega)
      have k4 := hr1.free (2 * i + 1)
      go_still_tail 17, (by kernel_rfl)
      change wpList _ _ _ _ _ wy.drew
      have hr2 : Row wy.drew w.heap.size w.heap.size n n (tab n (fun j => if j = 2 * i then x - y / 2 else uhI zs m i j)) := hr1
      have hbel2 : Below w.heap.size w wy.drew := hbel1.drew
      generalize wy.drew = wz at hr2 hbel2 ⊢
      clear hr1 hbel1 h2'' k1 k3 k4 s3 s5 s6 s7 t3 t4 t7 t8
      have k3 := hr2.getT (2 * i + 1) (by omega)
      have k4 := hr2.free (2 * i + 1)
      go_wp2
      go_roundw
      case rel => exact ⟨i + 1, by omega, by go_num, hr2.setT (2 * i + 1) (x - y / 2 + y) HS.out, hbel2.setCell (Nat.le_refl _) _⟩
      case measure => simp [intOf]; omega
    · have e : i = m := by omega
      subst e
      have HR : Hid (uhL zs i = tab n (uhF zs i)) := by rw [uhL]; congr 1; omega
      clear hi hlt
      go_wp2
      go_ret
      exact ret_own (hr.to fun j hj => uhI_last (by omega)).own HR.out hbel
set_option maxHeartbeats 400000 in
theorem implUnhalveOf_any (w : World) (v : Value) (zs : List Int) (h : Rd w v zs) (hl : zs.length ≤ 1048576) :
    Calls Try.prog 23 #[v] w fun e w' => ∃ r, e = .returned r ∧ Own w' w.heap.size r (resUnhalveOf zs) ∧ Below w.heap.size w w' := by
  by_cases hv : evRow zs = true
  · have HR := Lib.hid (show resUnhalveOf zs = _ by rw [resUnhalveOf, if_pos hv])
    go_enter Try.func23, Try.ntmps23
    go_wp2_with (first | (go_at_call 39; refine (even_any _ _ zs h hl).mono ?_; rintro e w' ⟨rfl, rfl⟩) | (go_at_call 42; refine (implUnhalve_any _ _ zs h hv).mono ?_; rintro e w' ⟨r, rfl, hr, hb⟩))
    go_ret
    exact ret_own hr HR.out hb
  · have hv' : evRow zs = false := by simpa using hv
    have HR := Lib.hid (show resUnhalveOf zs = [] by rw [resUnhalveOf, if_neg hv])
    clear hv
    go_enter Try.func23, Try.ntmps23
    go_wp2_with (go_at_call 39; refine (even_any _ _ zs h hl).mono ?_; rintro e w' ⟨rfl, rfl⟩)
    go_ret
    exact ret_own (Own.nil _ _) HR.out (Below.refl _ _)
end Go.Proofs.Ytjakoeamnmdcmaa
