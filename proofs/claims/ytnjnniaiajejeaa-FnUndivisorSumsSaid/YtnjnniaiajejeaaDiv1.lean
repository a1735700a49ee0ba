/- DivisorSums and UndivisorSums: the reference and the program return the same rows. Conditions: at most 1048576 numbers. -/
import Derived.Test.YtnjnniaiajejeaaRow1
import Derived.Test.YtnjnniaiajejeaaTab
namespace Go.Proofs.Ytnjnniaiajejeaa
open Go.RowKit
/-- Of the first d numbers those at divisors of j + 1 (counted from 1), summed up. -/
def dv (zs : List Int) (j : Nat) : Nat → Int
  | 0 => 0
  | d + 1 => if (j + 1) % (d + 1) = 0 then dv zs j d + zs.getD d 0 else dv zs j d
theorem dv_yes {zs : List Int} {j d : Nat} (h : (j + 1) % (d + 1) = 0) : dv zs j (d + 1) = dv zs j d + zs.getD d 0 := by simp only [dv]; rw [if_pos h]
theorem dv_no {zs : List Int} {j d : Nat} (h : (j + 1) % (d + 1) ≠ 0) : dv zs j (d + 1) = dv zs j d := by simp only [dv]; rw [if_neg h]
theorem dv_bd {zs : List Int} (h : ∀ j, -1000 ≤ zs.getD j 0 ∧ zs.getD j 0 ≤ 1000) (j d : Nat) : -(1000 * (d : Int)) ≤ dv zs j d ∧ dv zs j d ≤ 1000 * d := by
  induction d with
  | zero => simp [dv]
  | succ d ih => have := h d; simp only [dv]; split <;> omega
theorem dv_stay (zs : List Int) (j : Nat) {d : Nat} (h : j + 1 ≤ d) : dv zs j d = dv zs j (j + 1) := by
  induction d with
  | zero => omega
  | succ d ih =>
    by_cases e : j = d
    · subst e; rfl
    · rw [dv_no (by rw [Nat.mod_eq_of_lt (by omega)]; omega)]
      exact ih (by omega)
/-- The row while the reference sums up: n numbers are done, of the next one the first d. -/
def dsSpec (zs : List Int) (n d j : Nat) : Int := if j < n then dv zs j (j + 1) else if j = n then dv zs n d else 0
/-- The row while the program sums up: d numbers are given out, the next one up to index m. -/
def dsImpl (zs : List Int) (d m j : Nat) : Int := if j < m then dv zs j (d + 1) else dv zs j d
/-- A multiple. -/
def Mult (m d : Nat) : Prop := (m + 1) % (d + 1) = 0
def resDivisorSums (zs : List Int) : List Int := if vrow zs = true then tab zs.length (fun j => dv zs j (j + 1)) else []
theorem resDivisorSums_len (zs : List Int) : (resDivisorSums zs).length ≤ 1048576 := by
  unfold resDivisorSums
  split
  · rename_i h; rw [tab_len]; have := vrow_len h; omega
  · simp
theorem mult_next {m d : Nat} (h : Mult m d) : Mult (m + d + 1) d := by
  unfold Mult at *
  rw [show m + d + 1 + 1 = (m + 1) + (d + 1) by omega, Nat.add_mod_right]; exact h
theorem mult_between {m d j : Nat} (h : Mult m d) (h1 : m < j) (h2 : j < m + d + 1) : ¬ Mult j d := by
  unfold Mult at *
  intro hj
  obtain ⟨a, ha⟩ := Nat.dvd_of_mod_eq_zero h
  obtain ⟨b, hb⟩ := Nat.dvd_of_mod_eq_zero hj
  have : (d + 1) * a < (d + 1) * b := by omega
  have h3 : a < b := Nat.lt_of_mul_lt_mul_left this
  have h4 : (d + 1) * (a + 1) ≤ (d + 1) * b := Nat.mul_le_mul_left _ h3
  rw [Nat.mul_add] at h4
  omega
theorem dsImpl_step {zs : List Int} {d m : Nat} (h : Mult m d) (j : Nat) : dsImpl zs d (m + d + 1) j = if j = m then dv zs m d + zs.getD d 0 else dsImpl zs d m j := by
  unfold dsImpl
  by_cases e : j = m
  · subst e; rw [if_pos rfl, if_pos (by omega)]; exact dv_yes h
  · rw [if_neg e]
    by_cases h1 : j < m
    · rw [if_pos h1, if_pos (by omega)]
    · rw [if_neg h1]
      by_cases h2 : j < m + d + 1
      · rw [if_pos h2]; exact dv_no (mult_between h (by omega) h2)
      · rw [if_neg h2]
theorem dsImpl_first (zs : List Int) (d j : Nat) : dsImpl zs d d j = dv zs j d := by
  unfold dsImpl
  split
  · rename_i h; rw [dv_stay zs j (show j + 1 ≤ d + 1 by omega), dv_stay zs j (show j + 1 ≤ d by omega)]
  · rfl
theorem dsImpl_last {zs : List Int} {d m L : Nat} (h : L ≤ m) (j : Nat) (hj : j < L) : dv zs j (d + 1) = dsImpl zs d m j := by
  unfold dsImpl; rw [if_pos (by omega)]
theorem dsSpec_yes {zs : List Int} {n d : Nat} (h : (n + 1) % (d + 1) = 0) (j : Nat) : dsSpec zs n (d + 1) j = if j = n then dv zs n d + zs.getD d 0 else dsSpec zs n d j := by
  unfold dsSpec
  by_cases e : j = n
  · subst e; rw [if_neg (by omega), if_pos rfl, if_pos rfl, dv_yes h]
  · simp only [if_neg e]
theorem dsSpec_no {zs : List Int} {n d : Nat} (h : (n + 1) % (d + 1) ≠ 0) (j : Nat) : dsSpec zs n (d + 1) j = dsSpec zs n d j := by
  unfold dsSpec; rw [dv_no h]
theorem dsSpec_at (zs : List Int) (n d : Nat) : dsSpec zs n d n = dv zs n d := by
  unfold dsSpec; rw [if_neg (by omega), if_pos rfl]
theorem dsSpec_next (zs : List Int) (n j : Nat) : dsSpec zs (n + 1) 0 j = dsSpec zs n (n + 1) j := by
  unfold dsSpec
  by_cases e : j = n
  · subst e; rw [if_pos (by omega), if_neg (by omega), if_pos rfl]
  · by_cases h : j < n
    · rw [if_pos (by omega), if_pos h]
    · rw [if_neg (by omega), if_neg h, if_neg e]
      split <;> simp [dv]
theorem dsSpec_first (zs : List Int) (j : Nat) : dsSpec zs 0 0 j = 0 := by
  unfold dsSpec; simp [dv]
theorem dsSpec_last {zs : List Int} {L j : Nat} (h : j < L) : dv zs j (j + 1) = dsSpec zs L 0 j := by
  unfold dsSpec; rw [if_pos h]
theorem rem_bool (n d : Nat) : (((n : Int) + 1) % ((d : Int) + 1) == 0) = decide ((n + 1) % (d + 1) = 0) := by
  rw [Bool.eq_iff_iff]
  have : ((n : Int) + 1) % ((d : Int) + 1) = (((n + 1) % (d + 1) : Nat) : Int) := rfl
  simp only [this, beq_iff_eq, decide_eq_true_eq]
  omega
set_option maxHeartbeats 1000000 in
theorem specDivisorSums_any (w : World) (v : Value) (zs : List Int) (h : Rd w v zs) (hl : zs.length ≤ 1048576) :
    Calls Try.prog 11 #[v] w fun e w' => ∃ r, e = .returned r ∧ Own w' w.heap.size r (resDivisorSums zs) ∧ Below w.heap.size w w' := by
  by_cases hv : vrow zs = true
  · have HR := Lib.hid (show resDivisorSums zs = _ by rw [resDivisorSums, if_pos hv])
    have hl16 := vrow_len hv
    have HB := Lib.hid (vrow_all hv)
    have h' := h
    obtain ⟨a, cap, rfl, hlc, hm, hc⟩ := h'
    obtain ⟨n, hn⟩ : ∃ n, n = zs.length := ⟨_, rfl⟩
    rw [← hn] at hlc hl16 HR h hl ⊢
    have HH := Lib.hid h
    have HN := Lib.hid hn
    have HC := Lib.hid hc
    have HV := Lib.hid hv
    clear hc hn hm h hl
    have hl : zs.length ≤ 1048576 := by rw [← HN.out]; omega
    go_enter Try.func11, Try.ntmps11
    go_wp2_with (first | (go_at_call 27; refine (validRow_any _ _ zs HH.out hl).mono ?_; rintro e w' ⟨rfl, rfl⟩) | (at_make; refine wpList_mk rfl _ _ rfl n rfl rfl (by omega) ?_))
    intro w1 hrow hgrow
    have hb1 : Below w.heap.size w w1 := (Below.refl _ _).grown hgrow (Nat.le_refl _) (by simp)
    clear hgrow
    rw [tab_zero] at hrow
    go_wp2
    go_loopw [4, 5] (fun i _ wr => ∃ k : Nat, k ≤ n ∧ i = .int .i64 ((k : Int) + 1) ∧ Row wr w.heap.size w.heap.size n n (tab n (dsSpec zs k 0)) ∧ Below w.heap.size w wr) (fun i _ _ => n + 1 - (intOf i).toNat)
    case atStart => exact ⟨0, Nat.zero_le _, rfl, hrow.to fun j _ => dsSpec_first zs j, hb1⟩
    case round =>
      obtain ⟨k, hk, rfl, hr, hbel⟩ := hrel
      clear hrow hb1
      by_cases hlt : k < n
      · obtain ⟨b, o, rfl, hcell⟩ := HC.out.resolve_left (by intro h0; have := HN.out; rw [h0] at this; simp at this; omega)
        have hbl := World.block_lt_of_cell? w _ (hcell 0 (by rw [← HN.out]; omega))
        have HCC := Lib.hid hcell
        clear hcell HC
        obtain ⟨wo, rfl⟩ : ∃ wo : World, wo = wr := ⟨_, rfl⟩
        go_wp2
        go_loopw [5] (fun i wr => ∃ d : Nat, d ≤ k + 1 ∧ i = .int .i64 ((d : Int) + 1) ∧ Row wr w.heap.size w.heap.size n n (tab n (dsSpec zs k d)) ∧ Below w.heap.size w wr) (fun i _ => k + 2 - (intOf i).toNat)
        case atStart => exact ⟨0, Nat.zero_le _, rfl, hr, hbel⟩
        case round =>
          obtain ⟨d, hd, rfl, hr', hbel'⟩ := hrel
          clear hr hbel
          by_cases hlt2 : d ≤ k
          · have hrb := rem_bool k d
            have z1 : ¬ (d : Int) + 1 = 0 := by omega
            by_cases hdv : (k + 1) % (d + 1) = 0
            · rw [decide_eq_true hdv] at hrb
              have HD := Lib.hid hdv
              clear hdv
              have h1 : wr.cell? ⟨b, o + d, none⟩ = some (.int .i64 (zs.getD d 0)) := (hbel'.cell (p := ⟨b, o + d, none⟩) hbl).trans (HCC.out d (by rw [← HN.out]; omega))
              have h2 := hr'.getT k hlt
              rw [dsSpec_at] at h2
              have h3 := hr'.free k
              have hx2 := HB.out d
              have hy2 := dv_bd HB.out k d
              obtain ⟨x, hx⟩ : ∃ x, x = zs.getD d 0 := ⟨_, rfl⟩
              rw [← hx] at h1 hx2
              obtain ⟨y, hy⟩ : ∃ y, y = dv zs k d := ⟨_, rfl⟩
              rw [← hy] at h2 hy2
              have HX : Hid (∀ j, j < n → dsSpec zs k (d + 1) j = if j = k then y + x else dsSpec zs k d j) := fun j _ => by rw [hx, hy]; exact dsSpec_yes HD.out j
              clear hx hy
              have s0 : (0 : Int) ≤ (k : Int) := by omega
              have s1 : (k : Int) < (n : Int) := by omega
              have s2 : (0 : Int) ≤ (d : Int) := by omega
              have s3 : (d : Int) < (n : Int) := by omega
              have s4 : IntKind.i64.wrap (k : Int) = (k : Int) := IntWalk.i64_in _ (by omega)
              have s5 : IntKind.i64.wrap (d : Int) = (d : Int) := IntWalk.i64_in _ (by omega)
              have s6 : IntKind.i64.wrap (y + x) = y + x := IntWalk.i64_in _ (by omega)
              go_wp2
              go_still_tail 15, (by kernel_rfl)
              clear s4 s5 s6 hrb z1
              change wpList _ _ _ _ _ wr.drew
              go_wp2
              go_roundw
              case rel => exact ⟨d + 1, by omega, by go_num, hr'.drew.setT k _ HX.out, hbel'.drew.setCell (Nat.le_refl _) _⟩
              case measure => simp [intOf]; omega
            · rw [decide_eq_false hdv] at hrb
              have HD := Lib.hid hdv
              clear hdv
              go_wp2
              go_roundw
              case rel => exact ⟨d + 1, by omega, by go_num, hr'.to fun j _ => dsSpec_no HD.out j, hbel'⟩
              case measure => simp [intOf]; omega
          · have e : d = k + 1 := by omega
            subst e
            clear hlt2 hd
            go_wp2
            go_roundw
            case rel => exact ⟨k + 1, by omega, by go_num, hr'.to fun j _ => dsSpec_next zs k j, hbel'⟩
            case measure => simp [intOf]; omega
      · go_wp2
        go_ret
        have e : k = n := by omega
        subst e
        exact ret_own (hr.to fun j hj => dsSpec_last hj).own (by rw [HR.out]) hbel
  · have hv' : vrow zs = false := by simpa using hv
    have HR := Lib.hid (show resDivisorSums zs = [] by rw [resDivisorSums, if_neg hv])
    clear hv
    go_enter Try.func11, Try.ntmps11
    go_wp2_with (go_at_call 27; refine (validRow_any _ _ zs h hl).mono ?_; rintro e w' ⟨rfl, rfl⟩)
    go_ret
    exact ret_own (Own.nil _ _) HR.out (Below.refl _ _)
set_option maxHeartbeats 1000000 in
theorem implDivisorSums_any (w : World) (v : Value) (zs : List Int) (h : Rd w v zs) (hl : zs.length ≤ 1048576) :
    Calls Try.prog 9 #[v] w fun e w' => ∃ r, e = .returned r ∧ Own w' w.heap.size r (resDivisorSums zs) ∧ Below w.heap.size w w' := by
  by_cases hv : vrow zs = true
  · have HR := Lib.hid (show resDivisorSums zs = _ by rw [resDivisorSums, if_pos hv])
    have hl16 := vrow_len hv
    have HB := Lib.hid (vrow_all hv)
    have h' := h
    obtain ⟨a, cap, rfl, hlc, hm, hc⟩ := h'
    obtain ⟨n, hn⟩ : ∃ n, n = zs.length := ⟨_, rfl⟩
    rw [← hn] at hlc hl16 HR h hl ⊢
    have HH := Lib.hid h
    have HN := Lib.hid hn
    have HC := Lib.hid hc
    have HV := Lib.hid hv
    clear hc hn hm h hl
    have hl : zs.length ≤ 1048576 := by rw [← HN.out]; omega
    go_enter Try.func9, Try.ntmps9
    go_wp2_with (first | (go_at_call 12; refine (implValidRow_any _ _ zs HH.out hl).mono ?_; rintro e w' ⟨rfl, rfl⟩) | (at_make; refine wpList_mk rfl _ _ rfl n rfl rfl (by omega) ?_))
    intro w1 hrow hgrow
    have hb1 : Below w.heap.size w w1 := (Below.refl _ _).grown hgrow (Nat.le_refl _) (by simp)
    clear hgrow
    rw [tab_zero] at hrow
    go_wp2
    go_loopw [4, 5] (fun i _ wr => ∃ k : Nat, k ≤ n ∧ i = .int .i64 ((k : Int) + 1) ∧ Row wr w.heap.size w.heap.size n n (tab n (fun j => dv zs j k)) ∧ Below w.heap.size w wr) (fun i _ _ => n + 1 - (intOf i).toNat)
    case atStart => exact ⟨0, Nat.zero_le _, rfl, hrow.to fun j _ => rfl, hb1⟩
    case round =>
      obtain ⟨k, hk, rfl, hr, hbel⟩ := hrel
      clear hrow hb1
      by_cases hlt : k < n
      · obtain ⟨b, o, rfl, hcell⟩ := HC.out.resolve_left (by intro h0; have := HN.out; rw [h0] at this; simp at this; omega)
        have hbl := World.block_lt_of_cell? w _ (hcell 0 (by rw [← HN.out]; omega))
        have HCC := Lib.hid hcell
        clear hcell HC
        obtain ⟨wo, rfl⟩ : ∃ wo : World, wo = wr := ⟨_, rfl⟩
        go_wp2
        go_loopw [5] (fun i wr => ∃ m : Nat, m ≤ n + k ∧ i = .int .i64 ((m : Int) + 1) ∧ Mult m k ∧ Row wr w.heap.size w.heap.size n n (tab n (dsImpl zs k m)) ∧ Below w.heap.size w wr) (fun i _ => n + 1 - (intOf i).toNat)
        case atStart => exact ⟨k, by omega, rfl, Nat.mod_self _, hr.to fun j _ => dsImpl_first zs k j, hbel⟩
        case round =>
          obtain ⟨m, hm, rfl, hmu, hr', hbel'⟩ := hrel
          have HM := Lib.hid hmu
          clear hr hbel hmu
          by_cases hlt2 : m < n
          · have h1 : wr.cell? ⟨b, o + k, none⟩ = some (.int .i64 (zs.getD k 0)) := (hbel'.cell (p := ⟨b, o + k, none⟩) hbl).trans (HCC.out k (by rw [← HN.out]; omega))
            have h2 := hr'.getT m hlt2
            rw [show dsImpl zs k m m = dv zs m k by unfold dsImpl; rw [if_neg (by omega)]] at h2
            have h3 := hr'.free m
            have hx2 := HB.out k
            have hy2 := dv_bd HB.out m k
            obtain ⟨x, hx⟩ : ∃ x, x = zs.getD k 0 := ⟨_, rfl⟩
            rw [← hx] at h1 hx2
            obtain ⟨y, hy⟩ : ∃ y, y = dv zs m k := ⟨_, rfl⟩
            rw [← hy] at h2 hy2
            have HX : Hid (∀ j, j < n → dsImpl zs k (m + k + 1) j = if j = m then y + x else dsImpl zs k m j) := fun j _ => by rw [hx, hy]; exact dsImpl_step HM.out j
            clear hx hy
            have s0 : (0 : Int) ≤ (k : Int) := by omega
            have s1 : (k : Int) < (n : Int) := by omega
            have s2 : (0 : Int) ≤ (m : Int) := by omega
            have s3 : (m : Int) < (n : Int) := by omega
            have s4 : IntKind.i64.wrap (k : Int) = (k : Int) := IntWalk.i64_in _ (by omega)
            have s5 : IntKind.i64.wrap (m : Int) = (m : Int) := IntWalk.i64_in _ (by omega)
            have s6 : IntKind.i64.wrap (y + x) = y + x := IntWalk.i64_in _ (by omega)
            go_wp2
            go_still_tail 12, (by kernel_rfl)
            clear s4 s5 s6
            change wpList _ _ _ _ _ wr.drew
            go_wp2
            go_roundw
            case rel => exact ⟨m + k + 1, by omega, by go_num, mult_next HM.out, hr'.drew.setT m _ HX.out, hbel'.drew.setCell (Nat.le_refl _) _⟩
            case measure => simp [intOf]; omega
          · have hge : n ≤ m := by omega
            go_wp2
            go_roundw
            case rel => exact ⟨k + 1, by omega, by go_num, hr'.to fun j hj => dsImpl_last hge j hj, hbel'⟩
            case measure => simp [intOf]; omega
      · go_wp2
        go_ret
        have e : k = n := by omega
        subst e
        exact ret_own (hr.to fun j hj => (dv_stay zs j (show j + 1 ≤ k by omega)).symm).own (by rw [HR.out]) hbel
  · have hv' : vrow zs = false := by simpa using hv
    have HR := Lib.hid (show resDivisorSums zs = [] by rw [resDivisorSums, if_neg hv])
    clear hv
    go_enter Try.func9, Try.ntmps9
    go_wp2_with (go_at_call 12; refine (implValidRow_any _ _ zs h hl).mono ?_; rintro e w' ⟨rfl, rfl⟩)
    go_ret
    exact ret_own (Own.nil _ _) HR.out (Below.refl _ _)
end Go.Proofs.Ytnjnniaiajejeaa
