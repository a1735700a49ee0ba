/- UndivisorSums: the reference and the program return the same rows. Conditions: at most 1048576 numbers. -/
import Derived.Test.YtnjnniaiajejeaaDiv1
namespace Go.Proofs.Ytnjnniaiajejeaa
open Go.RowKit
/-- Of the first d numbers of U those at divisors of j + 1 (counted from 1), summed up. -/
def su (U : Nat → Int) (j : Nat) : Nat → Int
  | 0 => 0
  | d + 1 => if (j + 1) % (d + 1) = 0 then su U j d + U d else su U j d
theorem su_congr {U V : Nat → Int} {j d : Nat} (h : ∀ i, i < d → U i = V i) : su U j d = su V j d := by
  induction d with
  | zero => rfl
  | succ d ih => simp only [su]; rw [ih (fun i hi => h i (by omega)), h d (by omega)]
/-- The first n numbers that are taken back. -/
def uvF (zs : List Int) : Nat → Nat → Int
  | 0, _ => 0
  | n + 1, j => if j = n then zs.getD n 0 - su (uvF zs n) n n else uvF zs n j
def uv (zs : List Int) (j : Nat) : Int := uvF zs (j + 1) j
theorem uvF_eq (zs : List Int) {n j : Nat} (h : j < n) : uvF zs n j = uv zs j := by
  induction n with
  | zero => omega
  | succ n ih =>
    by_cases e : j = n
    · subst e; rfl
    · simp only [uvF]; rw [if_neg e]; exact ih (by omega)
theorem uv_eq (zs : List Int) (n : Nat) : uv zs n = zs.getD n 0 - su (uv zs) n n := by
  show uvF zs (n + 1) n = _
  simp only [uvF]
  rw [if_true, su_congr (fun i hi => uvF_eq zs hi)]
/-- The number at j when the first d are taken off. -/
def un (zs : List Int) (j d : Nat) : Int := zs.getD j 0 - su (uv zs) j d
theorem un_self (zs : List Int) (j : Nat) : un zs j j = uv zs j := (uv_eq zs j).symm
theorem un_yes {zs : List Int} {j d : Nat} (h : (j + 1) % (d + 1) = 0) : un zs j (d + 1) = un zs j d - uv zs d := by simp only [un, su]; rw [if_pos h]; omega
theorem un_no {zs : List Int} {j d : Nat} (h : (j + 1) % (d + 1) ≠ 0) : un zs j (d + 1) = un zs j d := by simp only [un, su]; rw [if_neg h]
theorem un_bd {zs : List Int} (h : ∀ j, -1000 ≤ zs.getD j 0 ∧ zs.getD j 0 ≤ 1000) (d : Nat) : ∀ j, d ≤ j → -(1000 * 2 ^ d) ≤ un zs j d ∧ un zs j d ≤ 1000 * 2 ^ d := by
  induction d with
  | zero => intro j _; have := h j; simp only [un, su, Int.sub_zero, Int.pow_zero]; omega
  | succ d ih =>
    intro j hj
    have a := ih j (by omega)
    have b := ih d (Nat.le_refl _)
    rw [un_self] at b
    rw [Int.pow_succ]
    by_cases e : (j + 1) % (d + 1) = 0
    · rw [un_yes e]; omega
    · rw [un_no e]; omega
theorem un_bd' {zs : List Int} (h : ∀ j, -1000 ≤ zs.getD j 0 ∧ zs.getD j 0 ≤ 1000) {d j : Nat} (hd : d ≤ 16) (hj : d ≤ j) : -65536000 ≤ un zs j d ∧ un zs j d ≤ 65536000 := by
  have a := un_bd h d j hj
  have h1 : (2 : Nat) ^ d ≤ 2 ^ 16 := Nat.pow_le_pow_right (by omega) hd
  have h2 : ((2 : Int) ^ d) = ((2 ^ d : Nat) : Int) := by simp
  rw [h2] at a
  omega
/-- The row while the reference takes off. -/
def usSpec (zs : List Int) (n d j : Nat) : Int := if j < n then uv zs j else if j = n then un zs n d else zs.getD j 0
/-- The row while the program takes off. -/
def usImpl (zs : List Int) (d m j : Nat) : Int := if j < m then un zs j (min (d + 1) j) else un zs j (min d j)
def resUndivisorSums (zs : List Int) : List Int := if vrow zs = true then tab zs.length (uv zs) else []
theorem resUndivisorSums_len (zs : List Int) : (resUndivisorSums zs).length ≤ 1048576 := by
  unfold resUndivisorSums
  split
  · rename_i h; rw [tab_len]; have := vrow_len h; omega
  · simp
theorem usSpec_yes {zs : List Int} {n d : Nat} (h : (n + 1) % (d + 1) = 0) (j : Nat) : usSpec zs n (d + 1) j = if j = n then un zs n d - uv zs d else usSpec zs n d j := by
  unfold usSpec
  by_cases e : j = n
  · subst e; rw [if_neg (by omega), if_pos rfl, if_pos rfl, un_yes h]
  · simp only [if_neg e]
theorem usSpec_no {zs : List Int} {n d : Nat} (h : (n + 1) % (d + 1) ≠ 0) (j : Nat) : usSpec zs n (d + 1) j = usSpec zs n d j := by
  unfold usSpec; rw [un_no h]
theorem usSpec_at (zs : List Int) (n d : Nat) : usSpec zs n d n = un zs n d := by
  unfold usSpec; rw [if_neg (by omega), if_pos rfl]
theorem usSpec_lt (zs : List Int) {n d j : Nat} (h : j < n) : usSpec zs n d j = uv zs j := by
  unfold usSpec; rw [if_pos h]
theorem usSpec_next (zs : List Int) (n j : Nat) : usSpec zs (n + 1) 0 j = usSpec zs n n j := by
  unfold usSpec
  by_cases e : j = n
  · subst e; rw [if_pos (by omega), if_neg (by omega), if_pos rfl, un_self]
  · by_cases h : j < n
    · rw [if_pos (by omega), if_pos h]
    · rw [if_neg (by omega), if_neg h, if_neg e]
      split
      · rename_i h2; rw [h2]; simp [un, su]
      · rfl
theorem usSpec_first (zs : List Int) (j : Nat) : usSpec zs 0 0 j = zs.getD j 0 := by
  unfold usSpec; split
  · omega
  · split
    · rename_i h; rw [h]; simp [un, su]
    · rfl
theorem usImpl_step {zs : List Int} {d m : Nat} (h : Mult m d) (hm : d < m) (j : Nat) : usImpl zs d (m + d + 1) j = if j = m then un zs m d - uv zs d else usImpl zs d m j := by
  unfold usImpl
  by_cases e : j = m
  · subst e; rw [if_pos rfl, if_pos (by omega), Nat.min_eq_left (by omega)]; exact un_yes h
  · rw [if_neg e]
    by_cases h1 : j < m
    · rw [if_pos h1, if_pos (by omega)]
    · rw [if_neg h1]
      by_cases h2 : j < m + d + 1
      · rw [if_pos h2, Nat.min_eq_left (by omega), Nat.min_eq_left (by omega)]; exact un_no (mult_between h (by omega) h2)
      · rw [if_neg h2]
theorem usImpl_first (zs : List Int) (d j : Nat) : usImpl zs d (d + d + 1) j = un zs j (min d j) := by
  unfold usImpl
  split
  · by_cases h2 : j ≤ d
    · rw [Nat.min_eq_right (by omega), Nat.min_eq_right h2]
    · rw [Nat.min_eq_left (by omega), Nat.min_eq_left (by omega)]
      refine un_no ?_
      have h0 : Mult d d := Nat.mod_self _
      exact mult_between h0 (by omega) (by omega)
  · rfl
theorem usImpl_last {zs : List Int} {d m L : Nat} (h : L ≤ m) (j : Nat) (hj : j < L) : un zs j (min (d + 1) j) = usImpl zs d m j := by
  unfold usImpl; rw [if_pos (by omega)]
theorem usImpl_at (zs : List Int) {d m : Nat} (h : d < m) : usImpl zs d m m = un zs m d := by
  unfold usImpl; rw [if_neg (by omega), Nat.min_eq_left (by omega)]
theorem usImpl_d (zs : List Int) {d m : Nat} (h : d < m) : usImpl zs d m d = uv zs d := by
  unfold usImpl; rw [if_pos h, Nat.min_eq_right (by omega), un_self]
theorem mult_first (d : Nat) : Mult (d + d + 1) d := by
  unfold Mult; rw [show d + d + 1 + 1 = (d + 1) + (d + 1) by omega, Nat.add_mod_right]; exact Nat.mod_self _
set_option maxHeartbeats 1000000 in
theorem specUndivisorSums_any (w : World) (v : Value) (zs : List Int) (h : Rd w v zs) (hl : zs.length ≤ 1048576) :
    Calls Try.prog 15 #[v] w fun e w' => ∃ r, e = .returned r ∧ Own w' w.heap.size r (resUndivisorSums zs) ∧ Below w.heap.size w w' := by
  by_cases hv : vrow zs = true
  · have HR := Lib.hid (show resUndivisorSums zs = _ by rw [resUndivisorSums, if_pos hv])
    have hl16 := vrow_len hv
    have HB := Lib.hid (vrow_all hv)
    have h' := h
    obtain ⟨a, cap, rfl, hlc, hm, hc⟩ := h'
    obtain ⟨n, hn⟩ : ∃ n, n = zs.length := ⟨_, rfl⟩
    rw [← hn] at hlc hl16 HR h hl ⊢
    have HH := Lib.hid h
    have HN := Lib.hid hn
    have HC := Lib.hid hc
    have HV := Lib.hid hv
    clear hc hn hm h hl
    have hl : zs.length ≤ 1048576 := by rw [← HN.out]; omega
    by_cases hn0 : n = 0
    · have HR' := Lib.hid (show resUndivisorSums zs = [] by rw [HR.out, hn0]; rfl)
      have hz : zs = [] := List.eq_nil_of_length_eq_zero (by rw [← HN.out]; exact hn0)
      subst hn0
      have HZ := Lib.hid hz
      clear hz HR HC
      go_enter Try.func15, Try.ntmps15
      go_wp2_with (first | (go_at_call 27; refine (validRow_any _ _ zs HH.out hl).mono ?_; rintro e w' ⟨rfl, rfl⟩) | (at_builtin; refine wpList_cat rfl _ _ rfl w.heap.size _ _ [] zs rfl (Own.lit0 w (Nat.le_refl _)) rfl (HH.out.alloc _) (by rw [HZ.out]; simp) (by simp) ?_))
      intro v1 w1 hown hg
      have hbel := below_cat ((Below.refl w.heap.size w).alloc (Nat.le_refl _) _) (Own.lit0 w (Nat.le_refl _)) (by simp) hg
      rw [HZ.out] at hown
      obtain ⟨a1, c1, rfl, _, _, _⟩ := hown.rd
      clear hg
      go_wp2
      refine wp_loop_rounds 1 ?_; rw [rounds_succ]; go_wp2
      go_ret
      exact ret_own hown HR'.out hbel
    · go_enter Try.func15, Try.ntmps15
      go_wp2_with (first | (go_at_call 27; refine (validRow_any _ _ zs HH.out hl).mono ?_; rintro e w' ⟨rfl, rfl⟩) | (at_builtin; refine wpList_cat rfl _ _ rfl w.heap.size _ _ [] zs rfl (Own.lit0 w (Nat.le_refl _)) rfl (HH.out.alloc _) (by simp; omega) (by simp) ?_))
      intro v1 w1 hown hg
      have hb1 := below_cat ((Below.refl w.heap.size w).alloc (Nat.le_refl _) _) (Own.lit0 w (Nat.le_refl _)) (by simp) hg
      obtain ⟨g, c, hv1, hg1, hg2, hrow⟩ := hown.row (by rw [← HN.out]; omega)
      rw [← HN.out] at hrow hv1
      subst hv1
      have hrow : Row w1 w.heap.size g n c (tab n (fun j => zs.getD j 0)) := by have h0 := tab_of zs; rw [← HN.out] at h0; rw [← h0]; exact hrow
      clear hg hown
      go_wp2
      go_loopw [4, 5] (fun i _ wr => ∃ k : Nat, k ≤ n ∧ i = .int .i64 ((k : Int) + 1) ∧ Row wr w.heap.size g n c (tab n (usSpec zs k 0)) ∧ Below w.heap.size w wr) (fun i _ _ => n + 1 - (intOf i).toNat)
      case atStart => exact ⟨0, Nat.zero_le _, rfl, hrow.to fun j _ => usSpec_first zs j, hb1⟩
      case round =>
        obtain ⟨k, hk, rfl, hr, hbel⟩ := hrel
        clear hrow hb1
        by_cases hlt : k < n
        · obtain ⟨wo, rfl⟩ : ∃ wo : World, wo = wr := ⟨_, rfl⟩
          have hle : (k : Int) + 1 ≤ (n : Int) := by omega
          go_wp2
          go_loopw [5] (fun i wr => ∃ d : Nat, d ≤ k ∧ i = .int .i64 ((d : Int) + 1) ∧ Row wr w.heap.size g n c (tab n (usSpec zs k d)) ∧ Below w.heap.size w wr) (fun i _ => k + 2 - (intOf i).toNat)
          case atStart => exact ⟨0, Nat.zero_le _, rfl, hr, hbel⟩
          case round =>
            obtain ⟨d, hd, rfl, hr', hbel'⟩ := hrel
            clear hr hbel
            by_cases hlt2 : d < k
            · have hrb := rem_bool k d
              have z1 : ¬ (d : Int) + 1 = 0 := by omega
              by_cases hdv : (k + 1) % (d + 1) = 0
              · rw [decide_eq_true hdv] at hrb
                have HD := Lib.hid hdv
                clear hdv
                have h1 := hr'.getT d (by omega)
                rw [usSpec_lt zs hlt2, ← un_self] at h1
                have h2 := hr'.getT k hlt
                rw [usSpec_at] at h2
                have h3 := hr'.free k
                have hx2 := un_bd' HB.out (show d ≤ 16 by omega) (Nat.le_refl d)
                have hy2 := un_bd' HB.out (show d ≤ 16 by omega) (show d ≤ k by omega)
                obtain ⟨x, hx⟩ : ∃ x, x = un zs d d := ⟨_, rfl⟩
                rw [← hx] at h1 hx2
                obtain ⟨y, hy⟩ : ∃ y, y = un zs k d := ⟨_, rfl⟩
                rw [← hy] at h2 hy2
                have HX : Hid (∀ j, j < n → usSpec zs k (d + 1) j = if j = k then y - x else usSpec zs k d j) := fun j _ => by rw [hx, hy, un_self]; exact usSpec_yes HD.out j
                clear hx hy
                have s0 : (0 : Int) ≤ (k : Int) := by omega
                have s1 : (k : Int) < (n : Int) := by omega
                have s2 : (0 : Int) ≤ (d : Int) := by omega
                have s3 : (d : Int) < (n : Int) := by omega
                have s4 : IntKind.i64.wrap (k : Int) = (k : Int) := IntWalk.i64_in _ (by omega)
                have s5 : IntKind.i64.wrap (d : Int) = (d : Int) := IntWalk.i64_in _ (by omega)
                have s6 : IntKind.i64.wrap (y - x) = y - x := IntWalk.i64_in _ (by omega)
                go_wp2
                go_still_tail 15, (by kernel_rfl)
                clear s4 s5 s6 hrb z1
                change wpList _ _ _ _ _ wr.drew
                go_wp2
                go_roundw
                case rel => exact ⟨d + 1, by omega, by go_num, hr'.drew.setT k _ HX.out, hbel'.drew.setCell (by first | exact hg1 | exact hr'.lt.1) _⟩
                case measure => simp [intOf]; omega
              · rw [decide_eq_false hdv] at hrb
                have HD := Lib.hid hdv
                clear hdv
                go_wp2
                go_roundw
                case rel => exact ⟨d + 1, by omega, by go_num, hr'.to fun j _ => usSpec_no HD.out j, hbel'⟩
                case measure => simp [intOf]; omega
            · have e : d = k := by omega
              subst e
              clear hlt2 hd
              go_wp2
              go_roundw
              case rel => exact ⟨d + 1, by omega, by go_num, hr'.to fun j _ => usSpec_next zs d j, hbel'⟩
              case measure => simp [intOf]; omega
        · go_wp2
          go_ret
          have e : k = n := by omega
          subst e
          exact ret_own (hr.to fun j hj => (usSpec_lt zs hj).symm).own (by rw [HR.out]) hbel
  · have hv' : vrow zs = false := by simpa using hv
    have HR := Lib.hid (show resUndivisorSums zs = [] by rw [resUndivisorSums, if_neg hv])
    clear hv
    go_enter Try.func15, Try.ntmps15
    go_wp2_with (go_at_call 27; refine (validRow_any _ _ zs h hl).mono ?_; rintro e w' ⟨rfl, rfl⟩)
    go_ret
    exact ret_own (Own.nil _ _) HR.out (Below.refl _ _)
set_option maxHeartbeats 1000000 in
theorem implUndivisorSums_any (w : World) (v : Value) (zs : List Int) (h : Rd w v zs) (hl : zs.length ≤ 1048576) :
    Calls Try.prog 13 #[v] w fun e w' => ∃ r, e = .returned r ∧ Own w' w.heap.size r (resUndivisorSums zs) ∧ Below w.heap.size w w' := by
  by_cases hv : vrow zs = true
  · have HR := Lib.hid (show resUndivisorSums zs = _ by rw [resUndivisorSums, if_pos hv])
    have hl16 := vrow_len hv
    have HB := Lib.hid (vrow_all hv)
    have h' := h
    obtain ⟨a, cap, rfl, hlc, hm, hc⟩ := h'
    obtain ⟨n, hn⟩ : ∃ n, n = zs.length := ⟨_, rfl⟩
    rw [← hn] at hlc hl16 HR h hl ⊢
    have HH := Lib.hid h
    have HN := Lib.hid hn
    have HC := Lib.hid hc
    have HV := Lib.hid hv
    clear hc hn hm h hl
    have hl : zs.length ≤ 1048576 := by rw [← HN.out]; omega
    by_cases hn0 : n = 0
    · have HR' := Lib.hid (show resUndivisorSums zs = [] by rw [HR.out, hn0]; rfl)
      have hz : zs = [] := List.eq_nil_of_length_eq_zero (by rw [← HN.out]; exact hn0)
      subst hn0
      have HZ := Lib.hid hz
      clear hz HR HC
      go_enter Try.func13, Try.ntmps13
      go_wp2_with (first | (go_at_call 12; refine (implValidRow_any _ _ zs HH.out hl).mono ?_; rintro e w' ⟨rfl, rfl⟩) | (at_builtin; refine wpList_cat rfl _ _ rfl w.heap.size _ _ [] zs rfl (Own.lit0 w (Nat.le_refl _)) rfl (HH.out.alloc _) (by rw [HZ.out]; simp) (by simp) ?_))
      intro v1 w1 hown hg
      have hbel := below_cat ((Below.refl w.heap.size w).alloc (Nat.le_refl _) _) (Own.lit0 w (Nat.le_refl _)) (by simp) hg
      rw [HZ.out] at hown
      obtain ⟨a1, c1, rfl, _, _, _⟩ := hown.rd
      clear hg
      go_wp2
      refine wp_loop_rounds 1 ?_; rw [rounds_succ]; go_wp2
      go_ret
      exact ret_own hown HR'.out hbel
    · go_enter Try.func13, Try.ntmps13
      go_wp2_with (first | (go_at_call 12; refine (implValidRow_any _ _ zs HH.out hl).mono ?_; rintro e w' ⟨rfl, rfl⟩) | (at_builtin; refine wpList_cat rfl _ _ rfl w.heap.size _ _ [] zs rfl (Own.lit0 w (Nat.le_refl _)) rfl (HH.out.alloc _) (by simp; omega) (by simp) ?_))
      intro v1 w1 hown hg
      have hb1 := below_cat ((Below.refl w.heap.size w).alloc (Nat.le_refl _) _) (Own.lit0 w (Nat.le_refl _)) (by simp) hg
      obtain ⟨g, c, hv1, hg1, hg2, hrow⟩ := hown.row (by rw [← HN.out]; omega)
      rw [← HN.out] at hrow hv1
      subst hv1
      have hrow : Row w1 w.heap.size g n c (tab n (fun j => zs.getD j 0)) := by have h0 := tab_of zs; rw [← HN.out] at h0; rw [← h0]; exact hrow
      clear hg hown
      go_wp2
      go_loopw [4, 5] (fun i _ wr => ∃ k : Nat, k ≤ n ∧ i = .int .i64 ((k : Int) + 1) ∧ Row wr w.heap.size g n c (tab n (fun j => un zs j (min k j))) ∧ Below w.heap.size w wr) (fun i _ _ => n + 1 - (intOf i).toNat)
      case atStart => exact ⟨0, Nat.zero_le _, rfl, hrow.to fun j _ => by simp [un, su], hb1⟩
      case round =>
        obtain ⟨k, hk, rfl, hr, hbel⟩ := hrel
        clear hrow hb1
        by_cases hlt : k < n
        · obtain ⟨wo, rfl⟩ : ∃ wo : World, wo = wr := ⟨_, rfl⟩
          have hle : (k : Int) + 1 ≤ (n : Int) := by omega
          have hb0 : Below w.heap.size w wo := hbel
          go_wp2
          go_loopw [5] (fun i wr => ∃ m : Nat, m ≤ n + k ∧ k < m ∧ i = .int .i64 ((m : Int) + 1) ∧ Mult m k ∧ Row wr w.heap.size g n c (tab n (usImpl zs k m)) ∧ Below w.heap.size w wr) (fun i _ => n + 1 - (intOf i).toNat)
          case atStart => exact ⟨k + k + 1, by omega, by omega, by go_num, mult_first k, hr.to fun j _ => usImpl_first zs k j, hbel⟩
          case round =>
            obtain ⟨m, hm, hkm, rfl, hmu, hr', hbel'⟩ := hrel
            have HM := Lib.hid hmu
            clear hr hbel hmu hb0
            by_cases hlt2 : m < n
            · have h1 := hr'.getT k hlt
              rw [usImpl_d zs hkm, ← un_self] at h1
              have h2 := hr'.getT m hlt2
              rw [usImpl_at zs hkm] at h2
              have h3 := hr'.free m
              have hx2 := un_bd' HB.out (show k ≤ 16 by omega) (Nat.le_refl k)
              have hy2 := un_bd' HB.out (show k ≤ 16 by omega) (show k ≤ m by omega)
              obtain ⟨x, hx⟩ : ∃ x, x = un zs k k := ⟨_, rfl⟩
              rw [← hx] at h1 hx2
              obtain ⟨y, hy⟩ : ∃ y, y = un zs m k := ⟨_, rfl⟩
              rw [← hy] at h2 hy2
              have HX : Hid (∀ j, j < n → usImpl zs k (m + k + 1) j = if j = m then y - x else usImpl zs k m j) := fun j _ => by rw [hx, hy, un_self]; exact usImpl_step HM.out hkm j
              clear hx hy
              have s0 : (0 : Int) ≤ (k : Int) := by omega
              have s1 : (k : Int) < (n : Int) := by omega
              have s2 : (0 : Int) ≤ (m : Int) := by omega
              have s3 : (m : Int) < (n : Int) := by omega
              have s4 : IntKind.i64.wrap (k : Int) = (k : Int) := IntWalk.i64_in _ (by omega)
              have s5 : IntKind.i64.wrap (m : Int) = (m : Int) := IntWalk.i64_in _ (by omega)
              have s6 : IntKind.i64.wrap (y - x) = y - x := IntWalk.i64_in _ (by omega)
              go_wp2
              go_still_tail 12, (by kernel_rfl)
              clear s4 s5 s6
              change wpList _ _ _ _ _ wr.drew
              go_wp2
              go_roundw
              case rel => exact ⟨m + k + 1, by omega, by omega, by go_num, mult_next HM.out, hr'.drew.setT m _ HX.out, hbel'.drew.setCell (by first | exact hg1 | exact hr'.lt.1) _⟩
              case measure => simp [intOf]; omega
            · have hge : n ≤ m := by omega
              go_wp2
              go_roundw
              case rel => exact ⟨k + 1, by omega, by go_num, hr'.to fun j hj => usImpl_last hge j hj, hbel'⟩
              case measure => simp [intOf]; omega
        · go_wp2
          go_ret
          have e : k = n := by omega
          subst e
          exact ret_own (hr.to fun j hj => by show uv zs j = un zs j (min k j); rw [Nat.min_eq_right (by omega), un_self]).own (by rw [HR.out]) hbel
  · have hv' : vrow zs = false := by simpa using hv
    have HR := Lib.hid (show resUndivisorSums zs = [] by rw [resUndivisorSums, if_neg hv])
    clear hv
    go_enter Try.func13, Try.ntmps13
    go_wp2_with (go_at_call 12; refine (implValidRow_any _ _ zs h hl).mono ?_; rintro e w' ⟨rfl, rfl⟩)
    go_ret
    exact ret_own (Own.nil _ _) HR.out (Below.refl _ _)
end Go.Proofs.Ytnjnniaiajejeaa
