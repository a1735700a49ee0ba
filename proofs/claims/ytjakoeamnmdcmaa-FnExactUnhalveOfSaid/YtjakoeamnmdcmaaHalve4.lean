/- HalveOf and UnhalveOf: the reference and the program return the same rows. Conditions: at most 1048576 numbers. -/
import Derived.Test.YtjakoeamnmdcmaaRow1
import Derived.Test.YtjakoeamnmdcmaaTab
namespace Go.Proofs.Ytjakoeamnmdcmaa
open Go.RowKit
theorem tmod_even {x : Int} (h0 : x < 0) (hp : x % 2 = 0) : x.tmod 2 = 0 := by
  obtain ⟨n, hn⟩ := Int.eq_ofNat_of_zero_le (show 0 ≤ -x by omega)
  have : x = -(n : Int) := by omega
  subst this
  rw [Int.neg_tmod, show ((n : Int)).tmod 2 = ((n % 2 : Nat) : Int) from rfl]; omega
theorem tmod_odd {x : Int} (h0 : x < 0) (hp : x % 2 = 1) : x.tmod 2 = -1 := by
  obtain ⟨n, hn⟩ := Int.eq_ofNat_of_zero_le (show 0 ≤ -x by omega)
  have : x = -(n : Int) := by omega
  subst this
  rw [Int.neg_tmod, show ((n : Int)).tmod 2 = ((n % 2 : Nat) : Int) from rfl]; omega
theorem tdiv_even {x : Int} (h0 : x < 0) (hp : x % 2 = 0) : x.tdiv 2 = x / 2 := by
  obtain ⟨n, hn⟩ := Int.eq_ofNat_of_zero_le (show 0 ≤ -x by omega)
  have : x = -(n : Int) := by omega
  subst this
  rw [Int.neg_tdiv, show ((n : Int)).tdiv 2 = ((n / 2 : Nat) : Int) from rfl]; omega
theorem tdiv_odd {x : Int} (h0 : x < 0) (hp : x % 2 = 1) : (x - 1).tdiv 2 = x / 2 := by
  rw [tdiv_even (show x - 1 < 0 by omega) (show (x - 1) % 2 = 0 by omega)]; omega
theorem floor_any (x : Int) (w : World) (h1 : -1000000000000 ≤ x) (h2 : x ≤ 1000000000000) :
    Calls Try.prog 46 #[.int .i64 x, .int .i64 2] w fun e w' => e = .returned (.int .i64 (x / 2)) ∧ w = w' := by
  by_cases h0 : x < 0
  · go_enter Try.func46, Try.ntmps46
    go_wp2
    go_ret
    exact ⟨ret_int (by omega), rfl⟩
  · go_enter Try.func46, Try.ntmps46
    go_wp2
    go_ret
    exact ⟨ret_int (by omega), rfl⟩
theorem down_any (x : Int) (w : World) (h1 : -1000000000000 ≤ x) (h2 : x ≤ 1000000000000) :
    Calls Try.prog 47 #[.int .i64 x, .int .i64 2] w fun e w' => e = .returned (.int .i64 (x / 2)) ∧ w = w' := by
  by_cases h0 : x < 0
  · by_cases hp : x % 2 = 0
    · have t1 := tmod_even h0 hp
      have t2 := tdiv_even h0 hp
      have HD := Lib.hid t2
      clear t2 hp
      go_enter Try.func47, Try.ntmps47
      go_wp2
      go_ret
      exact ⟨ret_int HD.out, rfl⟩
    · have t1 := tmod_odd h0 (show x % 2 = 1 by omega)
      have HD := Lib.hid (tdiv_odd h0 (show x % 2 = 1 by omega))
      clear hp
      go_enter Try.func47, Try.ntmps47
      go_wp2
      go_ret
      exact ⟨ret_int HD.out, rfl⟩
  · go_enter Try.func47, Try.ntmps47
    go_wp2
    go_ret
    exact ⟨ret_int (by omega), rfl⟩

/-- A row of an even number of numbers. -/
def evRow (zs : List Int) : Bool := vrow zs && decide (zs.length % 2 = 0)
theorem evRow_row {zs : List Int} (h : evRow zs = true) : vrow zs = true := by simp only [evRow, Bool.and_eq_true] at h; exact h.1
theorem evRow_half {zs : List Int} (h : evRow zs = true) : ∃ m, zs.length = 2 * m ∧ m ≤ 8 := by
  have := vrow_len (evRow_row h)
  simp only [evRow, Bool.and_eq_true, decide_eq_true_eq] at h
  exact ⟨zs.length / 2, by omega, by omega⟩
theorem mod2_bool (n : Nat) : (((n : Int) % 2 == 0) : Bool) = decide (n % 2 = 0) := by
  rw [Bool.eq_iff_iff]; simp only [beq_iff_eq, decide_eq_true_eq]; omega
theorem validEven_any (w : World) (v : Value) (zs : List Int) (h : Rd w v zs) (hl : zs.length ≤ 1048576) :
    Calls Try.prog 37 #[v] w fun e w' => e = .returned (.bool (evRow zs)) ∧ w = w' := by
  have h' := h
  have HL := Lib.hid hl
  obtain ⟨a, cap, rfl, hlc, hm, hc⟩ := h'
  by_cases hv : vrow zs = true
  · have HV := Lib.hid hv
    have HE := Lib.hid (show evRow zs = decide (zs.length % 2 = 0) by simp [evRow, hv])
    have hb := mod2_bool zs.length
    rw [← HE.out] at hb
    obtain ⟨n, hn⟩ : ∃ n, n = zs.length := ⟨_, rfl⟩
    rw [← hn] at h hb hl ⊢
    have HH := Lib.hid h
    clear hc hm h hn hlc hv HE
    go_enter Try.func37, Try.ntmps37
    go_wp2_with fail
    refine (validRow_any _ _ zs HH.out HL.out).mono ?_; rintro e w' ⟨rfl, hww⟩; have e2 := HV.out; rw [e2]; subst hww; clear e2
    go_wp2_with fail
    go_ret
    exact ⟨rfl, rfl⟩
  · have hv' : vrow zs = false := by simpa using hv
    have HV := Lib.hid hv'
    have HE := Lib.hid (show evRow zs = false by simp [evRow, hv'])
    clear hv hv' hc hm hlc
    go_enter Try.func37, Try.ntmps37
    go_wp2_with fail
    refine (validRow_any _ _ zs h HL.out).mono ?_; rintro e w' ⟨rfl, hww⟩; have e2 := HV.out; rw [e2]; subst hww; clear e2
    go_wp2_with fail
    go_ret
    exact ⟨ret_bool HE.out.symm, rfl⟩
theorem even_any (w : World) (v : Value) (zs : List Int) (h : Rd w v zs) (hl : zs.length ≤ 1048576) :
    Calls Try.prog 39 #[v] w fun e w' => e = .returned (.bool (evRow zs)) ∧ w = w' := by
  have h' := h
  have HL := Lib.hid hl
  obtain ⟨a, cap, rfl, hlc, hm, hc⟩ := h'
  by_cases hv : vrow zs = true
  · have HV := Lib.hid hv
    have HE := Lib.hid (show evRow zs = decide (zs.length % 2 = 0) by simp [evRow, hv])
    have hb := mod2_bool zs.length
    rw [← HE.out] at hb
    obtain ⟨n, hn⟩ : ∃ n, n = zs.length := ⟨_, rfl⟩
    rw [← hn] at h hb hl ⊢
    have HH := Lib.hid h
    clear hc hm h hn hlc hv HE
    go_enter Try.func39, Try.ntmps39
    go_wp2_with fail
    refine (implValidRow_any _ _ zs HH.out HL.out).mono ?_; rintro e w' ⟨rfl, hww⟩; have e2 := HV.out; rw [e2]; subst hww; clear e2
    go_wp2_with fail
    go_ret
    exact ⟨rfl, rfl⟩
  · have hv' : vrow zs = false := by simpa using hv
    have HV := Lib.hid hv'
    have HE := Lib.hid (show evRow zs = false by simp [evRow, hv'])
    clear hv hv' hc hm hlc
    go_enter Try.func39, Try.ntmps39
    go_wp2_with fail
    refine (implValidRow_any _ _ zs h HL.out).mono ?_; rintro e w' ⟨rfl, hww⟩; have e2 := HV.out; rw [e2]; subst hww; clear e2
    go_wp2_with fail
    go_ret
    exact ⟨ret_bool HE.out.symm, rfl⟩
/-- The i-th difference, and the i-th mean. -/
def hvD (zs : List Int) (i : Nat) : Int := zs.getD (2 * i + 1) 0 - zs.getD (2 * i) 0
def hvM (zs : List Int) (i : Nat) : Int := zs.getD (2 * i) 0 + hvD zs i / 2
/-- The row while the program halves: i pairs are done. -/
def hvI (zs : List Int) (m i j : Nat) : Int := if j < m then (if j < i then hvM zs j else 0) else (if j - m < i then hvD zs (j - m) else 0)
def hvL (zs : List Int) (m : Nat) : List Int := tab m (hvM zs) ++ tab m (hvD zs)
theorem hvI_first (zs : List Int) (m j : Nat) : hvI zs m 0 j = 0 := by unfold hvI; simp
theorem hvI_step (zs : List Int) {m i : Nat} (hi : i < m) (j : Nat) : hvI zs m (i + 1) j = if j = m + i then hvD zs i else if j = i then hvM zs i else hvI zs m i j := by
  unfold hvI
  by_cases h1 : j = m + i
  · subst h1; rw [if_neg (by omega), if_pos rfl, if_pos (by omega)]; congr 1; omega
  · rw [if_neg h1]
    by_cases h2 : j = i
    · subst h2; rw [if_pos hi, if_pos (by omega), if_pos rfl]
    · rw [if_neg h2]
      by_cases h3 : j < m
      · simp only [if_pos h3]
        by_cases h4 : j < i
        · rw [if_pos (by omega), if_pos h4]
        · rw [if_neg (by omega), if_neg h4]
      · simp only [if_neg h3]
        by_cases h4 : j - m < i
        · rw [if_pos (by omega), if_pos h4]
        · rw [if_neg (by omega), if_neg h4]
theorem hvL_eq (zs : List Int) (m : Nat) : hvL zs m = tab (m + m) (hvI zs m m) := by
  apply List.ext_getElem?
  intro j
  simp only [hvL, tab, List.getElem?_append, List.length_map, List.length_range, List.getElem?_map]
  by_cases h1 : j < m
  · simp [h1, hvI, show j < m + m by omega]
  · by_cases h2 : j < m + m
    · simp [h1, hvI, h2, show j - m < m by omega]
    · simp [h1, h2, show ¬ j - m < m by omega]
theorem hvD_bd {zs : List Int} (h : ∀ j, -1000 ≤ zs.getD j 0 ∧ zs.getD j 0 ≤ 1000) (i : Nat) : -2000 ≤ hvD zs i ∧ hvD zs i ≤ 2000 := by
  have a := h (2 * i + 1); have b := h (2 * i); unfold hvD; omega
def resHalveOf (zs : List Int) : List Int := if evRow zs = true then hvL zs (zs.length / 2) else []
theorem resHalveOf_len (zs : List Int) : (resHalveOf zs).length ≤ 1048576 := by
  unfold resHalveOf
  split
  · rename_i h; have := vrow_len (evRow_row h); rw [hvL_eq, tab_len]; omega
  · simp
set_option maxHeartbeats 1600000 in
theorem halve_any (w : World) (v : Value) (zs : List Int) (h : Rd w v zs) (hv : evRow zs = true) :
    Calls Try.prog 38 #[v] w fun e w' => ∃ r, e = .returned r ∧ Own w' w.heap.size r (hvL zs (zs.length / 2)) ∧ Below w.heap.size w w' := by
  obtain ⟨m, hm2, hm8⟩ := evRow_half hv
  have HB := Lib.hid (vrow_all (evRow_row hv))
  obtain ⟨a, cap, rfl, hlc, hm, hc⟩ := h
  have hh : zs.length / 2 = m := by omega
  rw [hh]
  have HH2 := Lib.hid hm2
  obtain ⟨n, hn⟩ : ∃ n, n = zs.length := ⟨_, rfl⟩
  rw [← hn] at hlc hm2 HH2 ⊢
  have HN := Lib.hid hn
  have HC := Lib.hid hc
  have n1 : n ≤ 2 * m := by omega
  have n2 : 2 * m ≤ n := by omega
  clear hc hn hm hv hh hm2
  go_enter Try.func38, Try.ntmps38
  go_wp2
  have ha0 : Own ((w.alloc (.cells #[] 3)).alloc (.cells #[] 3)) w.heap.size (.slice (some ⟨w.heap.size, 0, none⟩) 0 0) (tab 0 (hvM zs)) := (Own.lit0 w (Nat.le_refl _)).alloc' _
  have hb0 : Own ((w.alloc (.cells #[] 3)).alloc (.cells #[] 3)) w.heap.size (.slice (some ⟨w.heap.size + 1, 0, none⟩) 0 0) (tab 0 (hvD zs)) := Own.lit0s _ (by simp) (by omega)
  have hap0 : Ap (.slice (some ⟨w.heap.size, 0, none⟩) 0 0) (.slice (some ⟨w.heap.size + 1, 0, none⟩) 0 0) := by intro g h1 h2; simp [Value.ownBlock] at h1 h2; omega
  have hbel0 : Below w.heap.size w ((w.alloc (.cells #[] 3)).alloc (.cells #[] 3)) := ((Below.refl _ _).alloc (Nat.le_refl _) _).alloc (by simp) _
  have HA0 := Lib.hid ha0
  have HB0 := Lib.hid hb0
  have HAP := Lib.hid hap0
  have HBE := Lib.hid hbel0
  clear ha0 hb0 hap0 hbel0
  go_loopw [3, 4, 5, 6] (fun u q i _ wr => ∃ k : Nat, k ≤ m ∧ i = .int .i64 (2 * (k : Int)) ∧ Own wr w.heap.size u (tab k (hvM zs)) ∧ Own wr w.heap.size q (tab k (hvD zs)) ∧ Ap u q ∧ Below w.heap.size w wr) (fun _ _ i _ _ => n - (intOf i).toNat)
  case atStart => exact ⟨0, Nat.zero_le _, rfl, HA0.out, HB0.out, HAP.out, HBE.out⟩
  case round =>
    obtain ⟨i, hi, rfl, hown, hown2, hap, hbel⟩ := hrel
    have hz := hbel.size
    clear HA0 HB0 HAP HBE
    by_cases hlt : i < m
    · obtain ⟨b, o, rfl, hcell⟩ := HC.out.resolve_left (by intro h0; have := HN.out; rw [h0] at this; simp at this; omega)
      have hbl := World.block_lt_of_cell? w _ (hcell 0 (by rw [← HN.out]; omega))
      have hx2 := HB.out (2 * i)
      have hy2 := HB.out (2 * i + 1)
      have h1 : wr.cell? ⟨b, o + 2 * i, none⟩ = some (.int .i64 (zs.getD (2 * i) 0)) := (hbel.cell (p := ⟨b, o + 2 * i, none⟩) hbl).trans (hcell (2 * i) (by rw [← HN.out]; omega))
      have h2 : wr.cell? ⟨b, o + (2 * i + 1), none⟩ = some (.int .i64 (zs.getD (2 * i + 1) 0)) := (hbel.cell (p := ⟨b, o + (2 * i + 1), none⟩) hbl).trans (hcell (2 * i + 1) (by rw [← HN.out]; omega))
      clear hcell HC
      have HD := Lib.hid (show hvD zs i = zs.getD (2 * i + 1) 0 - zs.getD (2 * i) 0 from rfl)
      have HM := Lib.hid (show hvM zs i = zs.getD (2 * i) 0 + hvD zs i / 2 from rfl)
      obtain ⟨x, hx⟩ : ∃ x, x = zs.getD (2 * i) 0 := ⟨_, rfl⟩
      rw [← hx] at h1 hx2 HD HM
      obtain ⟨y, hy⟩ : ∃ y, y = zs.getD (2 * i + 1) 0 := ⟨_, rfl⟩
      rw [← hy] at h2 hy2 HD
      rw [HD.out] at HM
      clear hx hy
      have s0 : (0 : Int) ≤ (i : Int) := by omega
      have s1 : 2 * (i : Int) + 1 < (n : Int) := by omega
      have s2 : 2 * (i : Int) < (n : Int) := by omega
      have s3 : (2 * (i : Int)).toNat = 2 * i := by omega
      have s4 : (2 * (i : Int) + 1).toNat = 2 * i + 1 := by omega
      have s5 : (0 : Int) ≤ 2 * (i : Int) := by omega
      have s6 : (0 : Int) ≤ 2 * (i : Int) + 1 := by omega
      have s7 : IntKind.i64.wrap (2 * (i : Int)) = 2 * (i : Int) := IntWalk.i64_in _ (by omega)
      have s8 : IntKind.i64.wrap (2 * (i : Int) + 1) = 2 * (i : Int) + 1 := IntWalk.i64_in _ (by omega)
      have s9 : IntKind.i64.wrap (y - x) = y - x := IntWalk.i64_in _ (by omega)
      have s10 : IntKind.i64.wrap (x + (y - x) / 2) = x + (y - x) / 2 := IntWalk.i64_in _ (by omega)
      have hlen : (tab i (hvM zs)).length ≤ 1048576 := by rw [tab_len]; omega
      have hlen2 : (tab i (hvD zs)).length ≤ 1048576 := by rw [tab_len]; omega
      go_wp2
      go_still_tail 10, (by kernel_rfl)
      change wpList _ _ _ _ _ wr.drew
      have hown' : Own wr.drew w.heap.size u3 (tab i (hvM zs)) := hown.drew
      have hown2' : Own wr.drew w.heap.size u4 (tab i (hvD zs)) := hown2.drew
      have hbel' : Below w.heap.size w wr.drew := hbel.drew
      have h1' : wr.drew.cell? ⟨b, o + 2 * i, none⟩ = some (.int .i64 x) := h1
      have hzs : wr.drew.heap.size = wr.heap.size := rfl
      generalize wr.drew = wd at hown' hown2' hbel' h1' hzs ⊢
      clear hown hown2 hbel h1 h2
      have hz' : w.heap.size ≤ wd.heap.size := hbel'.size
      clear hzs hz
      go_wp2
      go_region_held3 (fun w' => w'.cell? ⟨b, o + 2 * i, none⟩ = some (.int .i64 x)) (first | go_keep | exact (cell_app hg (hown'.alloc' _).drew hbl (by simp; omega)).trans (by assumption))
        ((first
          | (go_at_call 46; refine (floor_any (y - x) _ (by omega) (by omega)).mono ?_; rintro e w' ⟨rfl, rfl⟩)
          | (refine step_appAt (by rfl) _ _ (by rfl) w.heap.size wd.heap.size u3 (tab i (hvM zs)) (x + (y - x) / 2) (by rfl) ((hown'.alloc' _).drew) (by rfl) (by simp) hlen (by simp; omega) ?_; intro v' w1 hown1 hg hat)))
      have hbel1 := below_app' hbel' hown' hz' hg
      have hown21 : Own w1 w.heap.size u4 (tab i (hvD zs)) := ((hown2'.alloc' _).drew).kept hg hap.symm.or
      have hap1 : Ap v' u4 := hap.app hown2' hat (by simp)
      rw [← HM.out, ← tab_snoc] at hown1
      clear hg hown' hbel' hown2' hat hz' h1' s3 s4 s7 s8 s9 s10 hap
      have hz1 := hbel1.size
      go_wp2_with (at_builtin; refine wpList_appAt rfl _ _ rfl w.heap.size w1.heap.size u4 (tab i (hvD zs)) (y - x) rfl (hown21.alloc' _) rfl (by simp) hlen2 (by simp; omega) ?_)
      intro q' w2 hown3 hg hat
      have hbel2 := below_app hbel1 hown21 hz1 hg
      have hown4 : Own w2 w.heap.size v' (tab (i + 1) (hvM zs)) := (hown1.alloc' _).kept hg hap1.or
      have hap2 : Ap v' q' := (hap1.symm.app hown1 hat (by simp)).symm
      rw [← HD.out, ← tab_snoc] at hown3
      clear hg hown1 hbel1 hown21 hat hap1 hz1
      go_wp2
      go_roundw
      case rel => exact ⟨i + 1, by omega, by go_num, hown4, hown3, hap2, hbel2⟩
      case measure => simp [intOf]; omega
    · have e : i = m := by omega
      subst e
      clear hlt hi
      have hrd := Lib.hid hown2.rd
      have hlenc : (tab i (hvM zs)).length + (tab i (hvD zs)).length ≤ 1048576 := by rw [tab_len, tab_len]; omega
      go_wp2_with (at_builtin; refine wpList_cat rfl _ _ rfl w.heap.size u3 u4 (tab i (hvM zs)) (tab i (hvD zs)) rfl hown rfl hrd.out hlenc hz ?_)
      intro v' w1 hown1 hg
      have hbel1 := below_cat hbel hown hz hg
      clear hg hown hbel
      go_wp2
      go_ret
      exact ret_own hown1 rfl hbel1
set_option maxHeartbeats 400000 in
theorem specHalveOf_any (w : World) (v : Value) (zs : List Int) (h : Rd w v zs) (hl : zs.length ≤ 1048576) :
    Calls Try.prog 20 #[v] w fun e w' => ∃ r, e = .returned r ∧ Own w' w.heap.size r (resHalveOf zs) ∧ Below w.heap.size w w' := by
  by_cases hv : evRow zs = true
  · have HR := Lib.hid (show resHalveOf zs = _ by rw [resHalveOf, if_pos hv])
    go_enter Try.func20, Try.ntmps20
    go_wp2_with (first | (go_at_call 37; refine (validEven_any _ _ zs h hl).mono ?_; rintro e w' ⟨rfl, rfl⟩) | (go_at_call 38; refine (halve_any _ _ zs h hv).mono ?_; rintro e w' ⟨r, rfl, hr, hb⟩))
    go_ret
    exact ret_own hr HR.out hb
  · have hv' : evRow zs = false := by simpa using hv
    have HR := Lib.hid (show resHalveOf zs = [] by rw [resHalveOf, if_neg hv])
    clear hv
    go_enter Try.func20, Try.ntmps20
    go_wp2_with (go_at_call 37; refine (validEven_any _ _ zs h hl).mono ?_; rintro e w' ⟨rfl, rfl⟩)
    go_ret
    exact ret_own (Own.nil _ _) HR.out (Below.refl _ _)
set_option maxHeartbeats 1600000 in
theorem implHalve_any (w : World) (v : Value) (zs : List Int) (h : Rd w v zs) (hv : evRow zs = true) :
    Calls Try.prog 40 #[v] w fun e w' => ∃ r, e = .returned r ∧ Own w' w.heap.size r (hvL zs (zs.length / 2)) ∧ Below w.heap.size w w' := by
  obtain ⟨m, hm2, hm8⟩ := evRow_half hv
  have HB := Lib.hid (vrow_all (evRow_row hv))
  obtain ⟨a, cap, rfl, hlc, hm, hc⟩ := h
  have hh : zs.length / 2 = m := by omega
  rw [hh]
  have HH2 := Lib.hid hm2
  obtain ⟨n, hn⟩ : ∃ n, n = zs.length := ⟨_, rfl⟩
  rw [← hn] at hlc hm2 HH2 ⊢
  have HN := Lib.hid hn
  have HC := Lib.hid hc
  have n1 : n ≤ 2 * m := by omega
  have n2 : 2 * m ≤ n := by omega
  clear hc hn hm hv hh hm2
  have hnm : (n : Int) / 2 = (m : Int) := by omega
  go_enter Try.func40, Try.ntmps40
  go_wp2_with (at_make; refine wpList_mk rfl _ _ rfl n rfl rfl (by omega) ?_)
  intro w1 hrow hgrow
  have hb1 : Below w.heap.size w w1 := (Below.refl _ _).grown hgrow (Nat.le_refl _) (by simp)
  rw [tab_zero] at hrow
  clear hgrow
  go_wp2
  clear hnm
  go_loopw [5, 6, 14] (fun _ _ i wr => ∃ k : Nat, k ≤ m ∧ i = .int .i64 (k : Int) ∧ Row wr w.heap.size w.heap.size n n (tab n (hvI zs m k)) ∧ Below w.heap.size w wr) (fun _ _ i _ => m - (intOf i).toNat)
  case atStart => exact ⟨0, Nat.zero_le _, rfl, hrow.to fun j _ => hvI_first zs m j, hb1⟩
  case round =>
    obtain ⟨i, hi, rfl, hr, hbel⟩ := hrel
    clear hrow hb1
    by_cases hlt : i < m
    · obtain ⟨b, o, rfl, hcell⟩ := HC.out.resolve_left (by intro h0; have := HN.out; rw [h0] at this; simp at this; omega)
      have hbl := World.block_lt_of_cell? w _ (hcell 0 (by rw [← HN.out]; omega))
      have hx2 := HB.out (2 * i)
      have hy2 := HB.out (2 * i + 1)
      have h1 : wr.cell? ⟨b, o + 2 * i, none⟩ = some (.int .i64 (zs.getD (2 * i) 0)) := (hbel.cell (p := ⟨b, o + 2 * i, none⟩) hbl).trans (hcell (2 * i) (by rw [← HN.out]; omega))
      have h2 : wr.cell? ⟨b, o + (2 * i + 1), none⟩ = some (.int .i64 (zs.getD (2 * i + 1) 0)) := (hbel.cell (p := ⟨b, o + (2 * i + 1), none⟩) hbl).trans (hcell (2 * i + 1) (by rw [← HN.out]; omega))
      clear hcell HC
      have HD := Lib.hid (show hvD zs i = zs.getD (2 * i + 1) 0 - zs.getD (2 * i) 0 from rfl)
      have HM := Lib.hid (show hvM zs i = zs.getD (2 * i) 0 + hvD zs i / 2 from rfl)
      obtain ⟨x, hx⟩ : ∃ x, x = zs.getD (2 * i) 0 := ⟨_, rfl⟩
      rw [← hx] at h1 hx2 HD HM
      obtain ⟨y, hy⟩ : ∃ y, y = zs.getD (2 * i + 1) 0 := ⟨_, rfl⟩
      rw [← hy] at h2 hy2 HD
      rw [HD.out] at HM
      clear hx hy
      have s0 : (0 : Int) ≤ (i : Int) := by omega
      have s1 : 2 * (i : Int) + 1 < (n : Int) := by omega
      have s2 : 2 * (i : Int) < (n : Int) := by omega
      have s3 : (2 * (i : Int)).toNat = 2 * i := by omega
      have s4 : (2 * (i : Int) + 1).toNat = 2 * i + 1 := by omega
      have s5 : (0 : Int) ≤ 2 * (i : Int) := by omega
      have s6 : (0 : Int) ≤ 2 * (i : Int) + 1 := by omega
      have s7 : IntKind.i64.wrap (2 * (i : Int)) = 2 * (i : Int) := IntWalk.i64_in _ (by omega)
      have s8 : IntKind.i64.wrap (2 * (i : Int) + 1) = 2 * (i : Int) + 1 := IntWalk.i64_in _ (by omega)
      have s9 : IntKind.i64.wrap (y - x) = y - x := IntWalk.i64_in _ (by omega)
      have s10 : IntKind.i64.wrap (x + (y - x) / 2) = x + (y - x) / 2 := IntWalk.i64_in _ (by omega)
      have HS : Hid (∀ j, j < n → hvI zs m (i + 1) j = if j = m + i then y - x else if j = i then x + (y - x) / 2 else hvI zs m i j) := fun j _ => by rw [hvI_step zs hlt j, HM.out, HD.out]
      clear HD HM
      have t1 : (i : Int) < (n : Int) := by omega
      have t2 : (m : Int) + (i : Int) < (n : Int) := by omega
      have t3 : ((m : Int) + (i : Int)).toNat = m + i := by omega
      go_wp2
      go_still_tail 12, (by kernel_rfl)
      change wpList _ _ _ _ _ wr.drew
      have hr0 : Row wr.drew w.heap.size w.heap.size n n (tab n (hvI zs m i)) := hr
      have hbel0 : Below w.heap.size w wr.drew := hbel.drew
      have h1' : wr.drew.cell? ⟨b, o + 2 * i, none⟩ = some (.int .i64 x) := h1
      generalize wr.drew = wx at hr0 hbel0 h1' ⊢
      clear h1 h2 hr hbel
      have M := Lib.hid (down_any (y - x) wx.drew (by omega) (by omega))
      have k1 := hr0.getT i (by omega)
      have k2 := hr0.free i
      go_wp2
      refine wp_region_still_tail 11 (by kernel_rfl) (by kernel_rfl) ?_
      simp only [List.take_succ_cons, List.take_zero, List.drop_succ_cons, List.drop_zero]
      iterate 8 still_step
      still_call (M.out.mono fun _ _ h => ⟨h.1, h.2.symm⟩)
      repeat still_step
      refine wpStill_nil ?_
      change wpList _ _ _ _ _ wx.drew
      have hbel1 : Below w.heap.size w wx.drew := hbel0.drew
      have hr1 : Row wx.drew w.heap.size w.heap.size n n (tab n (hvI zs m i)) := hr0
      clear s3 s4 s7 s8 s9 s10 M h1' hr0 hbel0 k1 k2
      generalize wx.drew = wd at hr1 hbel1 ⊢
      have k1 := hr1.getT i (by omega)
      have k2 := hr1.free i
      have hr2 := hr1.setT i (x + (y - x) / 2) (f' := fun j => if j = i then x + (y - x) / 2 else hvI zs m i j) (fun _ _ => rfl)
      have k3 := hr2.getT (m + i) (by omega)
      have k4 := hr2.free (m + i)
      go_wp2
      go_roundw
      case rel => exact ⟨i + 1, by omega, by go_num, hr2.setT (m + i) (y - x) HS.out, (hbel1.setCell (Nat.le_refl _) _).setCell (Nat.le_refl _) _⟩
      case measure => simp [intOf]; omega
    · have e : i = m := by omega
      have HR : Hid (hvL zs m = tab n (hvI zs m i)) := by rw [hvL_eq, e]; congr 1; omega
      clear e
      go_wp2
      go_ret
      exact ret_own hr.own HR.out hbel
set_option maxHeartbeats 400000 in
theorem implHalveOf_any (w : World) (v : Value) (zs : List Int) (h : Rd w v zs) (hl : zs.length ≤ 1048576) :
    Calls Try.prog 21 #[v] w fun e w' => ∃ r, e = .returned r ∧ Own w' w.heap.size r (resHalveOf zs) ∧ Below w.heap.size w w' := by
  by_cases hv : evRow zs = true
  · have HR := Lib.hid (show resHalveOf zs = _ by rw [resHalveOf, if_pos hv])
    go_enter Try.func21, Try.ntmps21
    go_wp2_with (first | (go_at_call 39; refine (even_any _ _ zs h hl).mono ?_; rintro e w' ⟨rfl, rfl⟩) | (go_at_call 40; refine (implHalve_any _ _ zs h hv).mono ?_; rintro e w' ⟨r, rfl, hr, hb⟩))
    go_ret
    exact ret_own hr HR.out hb
  · have hv' : evRow zs = false := by simpa using hv
    have HR := Lib.hid (show resHalveOf zs = [] by rw [resHalveOf, if_neg hv])
    clear hv
    go_enter Try.func21, Try.ntmps21
    go_wp2_with (go_at_call 39; refine (even_any _ _ zs h hl).mono ?_; rintro e w' ⟨rfl, rfl⟩)
    go_ret
    exact ret_own (Own.nil _ _) HR.out (Below.refl _ _)
end Go.Proofs.Ytjakoeamnmdcmaa
