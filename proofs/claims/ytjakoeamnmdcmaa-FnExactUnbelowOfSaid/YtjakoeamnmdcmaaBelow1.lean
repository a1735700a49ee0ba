/- BelowOf and UnbelowOf: the reference and the program return the same rows. Conditions: at most 1048576 numbers. -/
import Derived.Test.YtjakoeamnmdcmaaCube1
namespace Go.Proofs.Ytjakoeamnmdcmaa
open Go.RowKit
/-- The row when the first j digits are done. -/
def bwF (s : Int) (zs : List Int) : Nat → Nat → Int
  | 0, x => zs.getD x 0
  | j + 1, x => if bitN x j = 1 then bwF s zs j x + s * bwF s zs j (x - pw2 j) else bwF s zs j x
theorem bwF_yes {s : Int} {zs : List Int} {j x : Nat} (h : bitN x j = 1) : bwF s zs (j + 1) x = bwF s zs j x + s * bwF s zs j (x - pw2 j) := by simp only [bwF]; rw [if_pos h]
theorem bwF_no {s : Int} {zs : List Int} {j x : Nat} (h : bitN x j ≠ 1) : bwF s zs (j + 1) x = bwF s zs j x := by simp only [bwF]; rw [if_neg h]
/-- The row while digit j is done: x numbers are done. -/
def bwI (s : Int) (zs : List Int) (j x y : Nat) : Int := if y < x then bwF s zs (j + 1) y else bwF s zs j y
theorem bit_facts : ∀ j : Nat, j < 4 → ∀ x : Nat, x < 16 → bitN x j = 1 → bitN (x - pw2 j) j ≠ 1 ∧ pw2 j ≤ x := by decide +kernel
theorem bwI_at (s : Int) (zs : List Int) (j x : Nat) : bwI s zs j x x = bwF s zs j x := by unfold bwI; rw [if_neg (by omega)]
theorem bwI_back {s : Int} {zs : List Int} {j x : Nat} (hj : j < 4) (hx : x < 16) (h : bitN x j = 1) : bwI s zs j x (x - pw2 j) = bwF s zs j (x - pw2 j) := by
  obtain ⟨h1, h2⟩ := bit_facts j hj x hx h
  have := pw2_pos j
  unfold bwI; rw [if_pos (by omega)]; exact bwF_no h1
theorem bwI_yes {s : Int} {zs : List Int} {j x : Nat} (h : bitN x j = 1) (y : Nat) : bwI s zs j (x + 1) y = if y = x then bwF s zs j x + s * bwF s zs j (x - pw2 j) else bwI s zs j x y := by
  unfold bwI
  by_cases e : y = x
  · subst e; rw [if_pos (by omega), if_pos rfl]; exact bwF_yes h
  · rw [if_neg e]
    by_cases h1 : y < x
    · rw [if_pos (by omega), if_pos h1]
    · rw [if_neg (by omega), if_neg h1]
theorem bwI_no {s : Int} {zs : List Int} {j x : Nat} (h : bitN x j ≠ 1) (y : Nat) : bwI s zs j (x + 1) y = bwI s zs j x y := by
  unfold bwI
  by_cases e : y = x
  · subst e; rw [if_pos (by omega), if_neg (by omega)]; exact bwF_no h
  · by_cases h1 : y < x
    · rw [if_pos (by omega), if_pos h1]
    · rw [if_neg (by omega), if_neg h1]
theorem bwI_first (s : Int) (zs : List Int) (j y : Nat) : bwI s zs j 0 y = bwF s zs j y := by unfold bwI; rw [if_neg (by omega)]
theorem bwI_last {s : Int} {zs : List Int} {j n y : Nat} (h : y < n) : bwF s zs (j + 1) y = bwI s zs j n y := by unfold bwI; rw [if_pos h]
theorem bwF_bd {s : Int} (hs : s = 1 ∨ s = -1) {zs : List Int} (h : ∀ j, -1000 ≤ zs.getD j 0 ∧ zs.getD j 0 ≤ 1000) (j : Nat) : ∀ x, -(1000 * (pw2 j : Int)) ≤ bwF s zs j x ∧ bwF s zs j x ≤ 1000 * (pw2 j : Int) := by
  induction j with
  | zero => intro x; have := h x; simp only [bwF, pw2]; omega
  | succ j ih =>
    intro x
    have a := ih x
    have b := ih (x - pw2 j)
    have e : ((pw2 (j + 1) : Nat) : Int) = 2 * (pw2 j : Int) := by rw [pw2]; omega
    rw [e]
    by_cases hx : bitN x j = 1
    · rw [bwF_yes hx]; rcases hs with rfl | rfl <;> omega
    · rw [bwF_no hx]; omega
theorem bwF_bd' {s : Int} (hs : s = 1 ∨ s = -1) {zs : List Int} (h : ∀ j, -1000 ≤ zs.getD j 0 ∧ zs.getD j 0 ≤ 1000) {j : Nat} (hj : j ≤ 4) (x : Nat) : -16000 ≤ bwF s zs j x ∧ bwF s zs j x ≤ 16000 := by
  have a := bwF_bd hs h j x
  have b := pw2_mono hj
  have c : pw2 4 = 16 := rfl
  omega
theorem sgn_bd {s y : Int} (hs : s = 1 ∨ s = -1) (h : -16000 ≤ y ∧ y ≤ 16000) : -16000 ≤ s * y ∧ s * y ≤ 16000 := by rcases hs with rfl | rfl <;> omega
theorem pw2_inj {i j : Nat} (h : ¬ pw2 i < pw2 j) (h' : i ≤ j) : i = j := by
  by_cases e : i < j
  · exact absurd (pw2_lt e) h
  · omega
/-- How many digits. -/
def bitsN (n : Nat) : Nat := if n = 1 then 0 else if n = 2 then 1 else if n = 4 then 2 else if n = 8 then 3 else 4
theorem bitsN_pw2 {J : Nat} (h : J ≤ 4) : bitsN (pw2 J) = J := by
  have : ∀ k : Nat, k < 5 → bitsN (pw2 k) = k := by decide
  exact this J (by omega)
def bwL (s : Int) (zs : List Int) : List Int := tab zs.length (fun y => bwF s zs (bitsN zs.length) y)
set_option maxHeartbeats 1600000 in
theorem below_any (w : World) (v : Value) (zs : List Int) (h : Rd w v zs) (hv : cube zs = true) (s : Int) (hs : s = 1 ∨ s = -1) :
    Calls Try.prog 44 #[v, .int .i64 s] w fun e w' => ∃ r, e = .returned r ∧ Own w' w.heap.size r (bwL s zs) ∧ Below w.heap.size w w' := by
  obtain ⟨J, hJ, hn⟩ := cube_ex hv
  have HB := Lib.hid (vrow_all (cube_row hv))
  have HS := Lib.hid hs
  have hs1 : -1 ≤ s := by omega
  have hs2 : s ≤ 1 := by omega
  have HH := Lib.hid h
  obtain ⟨a, cap, rfl, hlc, hm, hc⟩ := h
  have HR := Lib.hid (show bwL s zs = tab (pw2 J) (bwF s zs J) by rw [bwL, hn, bitsN_pw2 hJ])
  have HT := Lib.hid (show zs = tab (pw2 J) (fun j => zs.getD j 0) by have h0 := tab_of zs; rw [hn] at h0; exact h0)
  rw [hn] at hlc HH ⊢
  have HN := Lib.hid hn
  have hpJ : pw2 J ≤ 16 := pw2_mono hJ
  have hpJ1 := pw2_pos J
  obtain ⟨n, hnn⟩ : ∃ n, n = pw2 J := ⟨_, rfl⟩
  rw [← hnn] at hlc HH HR HT HN hpJ hpJ1 ⊢
  have HNJ := Lib.hid hnn
  clear hc hm hv hs hn hnn
  go_enter Try.func44, Try.ntmps44
  go_wp2_with (at_builtin; refine wpList_cat rfl _ _ rfl w.heap.size _ _ [] zs rfl (Own.lit0 w (Nat.le_refl _)) rfl (HH.out.alloc _) (by rw [HN.out]; simp; omega) (by simp) ?_)
  intro v1 w1 hown hg
  have hb1 := below_cat ((Below.refl w.heap.size w).alloc (Nat.le_refl _) _) (Own.lit0 w (Nat.le_refl _)) (by simp) hg
  have hown' : Own w1 w.heap.size v1 zs := by simpa using hown
  obtain ⟨g, c, hv1, hg1, hg2, hrow⟩ := hown'.row (by rw [HN.out]; omega)
  rw [HN.out] at hrow hv1
  subst hv1
  have hrow : Row w1 w.heap.size g n c (tab n (bwF s zs 0)) := by rw [HT.out] at hrow; exact hrow
  clear hg hown hown'
  go_wp2
  go_loopw [6, 7] (fun i _ wr => ∃ j : Nat, j ≤ J ∧ i = .int .i64 (j : Int) ∧ Row wr w.heap.size g n c (tab n (bwF s zs j)) ∧ Below w.heap.size w wr) (fun i _ _ => J - (intOf i).toNat)
  case atStart => exact ⟨0, Nat.zero_le _, rfl, hrow, hb1⟩
  case round =>
    obtain ⟨j, hj, rfl, hr, hbel⟩ := hrel
    clear hrow hb1
    have hpb := pw2_bd (show j ≤ 20 by omega)
    have hpp := pw2_pos j
    by_cases hlt : j < J
    · have hlt' : pw2 j < n := by rw [HNJ.out]; exact pw2_lt hlt
      obtain ⟨p, hp⟩ : ∃ p, p = pw2 j := ⟨_, rfl⟩
      have P := Lib.hid (show ∀ W : World, Calls Try.prog 49 #[.int .i64 j] W fun e w' => e = .returned (.int .i64 (p : Nat)) ∧ W = w' from fun W => by rw [hp]; exact power2_any j W (by omega))
      rw [← hp] at hpb hpp hlt'
      have HP := Lib.hid hp
      clear hp
      obtain ⟨wo, rfl⟩ : ∃ wo : World, wo = wr := ⟨_, rfl⟩
      go_wp2_with (go_at_call 49; refine (P.out _).mono ?_; rintro e w' ⟨rfl, rfl⟩)
      go_loopw [7] (fun i wr => ∃ x : Nat, x ≤ n ∧ i = .int .i64 (x : Int) ∧ Row wr w.heap.size g n c (tab n (bwI s zs j x)) ∧ Below w.heap.size w wr) (fun i _ => n - (intOf i).toNat)
      case atStart => exact ⟨0, Nat.zero_le _, rfl, hr.to fun y _ => bwI_first s zs j y, hbel⟩
      case round =>
        obtain ⟨x, hx, rfl, hr', hbel'⟩ := hrel
        clear hr hbel
        by_cases hltx : x < n
        · have hbit := bit_any x j
          have HBI := Lib.hid (bit_facts j (by omega) x (by omega))
          have HBY := Lib.hid (show bitN x j = 1 → ∀ y, bwI s zs j (x + 1) y = if y = x then bwF s zs j x + s * bwF s zs j (x - p) else bwI s zs j x y from fun h y => by rw [HP.out]; exact bwI_yes h y)
          have HBN := Lib.hid (show bitN x j ≠ 1 → ∀ y, bwI s zs j (x + 1) y = bwI s zs j x y from fun h y => bwI_no h y)
          have HBB := Lib.hid (show bitN x j = 1 → bwI s zs j x (x - p) = bwF s zs j (x - p) from fun h => by rw [HP.out]; exact bwI_back (by omega) (by omega) h)
          have hb1 : bitN x j ≤ 1 := by unfold bitN; omega
          obtain ⟨q, hq⟩ : ∃ q, q = bitN x j := ⟨_, rfl⟩
          have HBit := Lib.hid (show ∀ W : World, Calls Try.prog 50 #[.int .i64 x, .int .i64 j] W fun e w' => e = .returned (.int .i64 (q : Nat)) ∧ W = w' from fun W => by rw [hq]; exact bit_any x j W (by omega) (by omega))
          rw [← hq] at HBI HBY HBN HBB hb1
          clear hq hbit
          by_cases hq1 : q = 1
          · subst hq1
            have hpx : p ≤ x := by rw [HP.out]; exact (HBI.out rfl).2
            have h1 := hr'.getT x hltx
            rw [bwI_at] at h1
            have h2 := hr'.getT (x - p) (by omega)
            rw [HBB.out rfl] at h2
            have h3 := hr'.free x
            have hx2 := bwF_bd' HS.out HB.out (show j ≤ 4 by omega) x
            have hy2 := bwF_bd' HS.out HB.out (show j ≤ 4 by omega) (x - p)
            have HE := Lib.hid (HBY.out rfl)
            obtain ⟨y, hy⟩ : ∃ y, y = bwF s zs j (x - p) := ⟨_, rfl⟩
            rw [← hy] at h2 hy2 HE
            obtain ⟨z, hz⟩ : ∃ z, z = bwF s zs j x := ⟨_, rfl⟩
            rw [← hz] at h1 hx2 HE
            have hsy := sgn_bd HS.out hy2
            clear hy hz HBI HBN HBB HBY
            have s0 : (0 : Int) ≤ (x : Int) := by omega
            have s1 : (x : Int) < (n : Int) := by omega
            have s2 : (0 : Int) ≤ (x : Int) - (p : Int) := by omega
            have s3 : (x : Int) - (p : Int) < (n : Int) := by omega
            have s4 : ((x : Int) - (p : Int)).toNat = x - p := by omega
            have s5 : IntKind.i64.wrap ((x : Int) - (p : Int)) = (x : Int) - (p : Int) := IntWalk.i64_in _ (by omega)
            have s6 : IntKind.i64.wrap (s * y) = s * y := IntWalk.i64_in _ (by omega)
            have s7 : IntKind.i64.wrap (z + s * y) = z + s * y := IntWalk.i64_in _ (by omega)
            go_wp2_with (go_at_call 50; refine (HBit.out _).mono ?_; rintro e w' ⟨rfl, rfl⟩)
            refine wp_region_still_tail 17 (by kernel_rfl) (by kernel_rfl) ?_
            simp only [List.take_succ_cons, List.take_zero, List.drop_succ_cons, List.drop_zero]
            iterate 10 still_step
            still_call ((P.out wr.drew).mono fun _ _ h => ⟨h.1, h.2.symm⟩)
            repeat still_step
            refine wpStill_nil ?_
            change wpList _ _ _ _ _ wr.drew
            clear s4 s5 s6 s7
            go_wp2
            go_roundw
            case rel => exact ⟨x + 1, by omega, by go_num, hr'.drew.setT x _ fun y' _ => HE.out y', hbel'.drew.setCell (by exact hg1) _⟩
            case measure => simp [intOf]; omega
          · have hq0 : q = 0 := by omega
            subst hq0
            go_wp2_with (go_at_call 50; refine (HBit.out _).mono ?_; rintro e w' ⟨rfl, rfl⟩)
            go_roundw
            case rel => exact ⟨x + 1, by omega, by go_num, hr'.to fun y _ => HBN.out (by omega) y, hbel'⟩
            case measure => simp [intOf]; omega
        · have hge : n ≤ x := by omega
          go_wp2
          go_roundw
          case rel => exact ⟨j + 1, by omega, by go_num, hr'.to fun y hy => bwI_last (by omega), hbel'⟩
          case measure => simp [intOf]; omega
    · have e : j = J := by omega
      have hge : ¬ pw2 j < n := by rw [HNJ.out, e]; omega
      have HE := Lib.hid e
      clear e
      go_wp2_with (go_at_call 49; refine (power2_any j _ (by omega)).mono ?_; rintro e w' ⟨rfl, rfl⟩)
      go_ret
      exact ret_own hr.own (by rw [HR.out, HE.out]) hbel
def resBelowOf (zs : List Int) : List Int := if cube zs = true then bwL 1 zs else []
def resUnbelowOf (zs : List Int) : List Int := if cube zs = true then bwL (-1) zs else []
theorem cube_len {zs : List Int} (h : cube zs = true) : zs.length ≤ 16 := vrow_len (cube_row h)
theorem resBelowOf_len (zs : List Int) : (resBelowOf zs).length ≤ 1048576 := by
  unfold resBelowOf
  split
  · rename_i h; have := cube_len h; rw [bwL, tab_len]; omega
  · simp
theorem resUnbelowOf_len (zs : List Int) : (resUnbelowOf zs).length ≤ 1048576 := by
  unfold resUnbelowOf
  split
  · rename_i h; have := cube_len h; rw [bwL, tab_len]; omega
  · simp
set_option maxHeartbeats 400000 in
theorem specBelowOf_any (w : World) (v : Value) (zs : List Int) (h : Rd w v zs) (hl : zs.length ≤ 1048576) :
    Calls Try.prog 24 #[v] w fun e w' => ∃ r, e = .returned r ∧ Own w' w.heap.size r (resBelowOf zs) ∧ Below w.heap.size w w' := by
  by_cases hv : cube zs = true
  · have HR := Lib.hid (show resBelowOf zs = _ by rw [resBelowOf, if_pos hv])
    go_enter Try.func24, Try.ntmps24
    go_wp2_with (first | (go_at_call 43; refine (validCube_any _ _ zs h hl).mono ?_; rintro e w' ⟨rfl, rfl⟩) | (go_at_call 44; refine (below_any _ _ zs h hv 1 (.inl rfl)).mono ?_; rintro e w' ⟨r, rfl, hr, hb⟩))
    go_ret
    exact ret_own hr HR.out hb
  · have hv' : cube zs = false := by simpa using hv
    have HR := Lib.hid (show resBelowOf zs = [] by rw [resBelowOf, if_neg hv])
    clear hv
    go_enter Try.func24, Try.ntmps24
    go_wp2_with (go_at_call 43; refine (validCube_any _ _ zs h hl).mono ?_; rintro e w' ⟨rfl, rfl⟩)
    go_ret
    exact ret_own (Own.nil _ _) HR.out (Below.refl _ _)
set_option maxHeartbeats 400000 in
theorem specUnbelowOf_any (w : World) (v : Value) (zs : List Int) (h : Rd w v zs) (hl : zs.length ≤ 1048576) :
    Calls Try.prog 26 #[v] w fun e w' => ∃ r, e = .returned r ∧ Own w' w.heap.size r (resUnbelowOf zs) ∧ Below w.heap.size w w' := by
  by_cases hv : cube zs = true
  · have HR := Lib.hid (show resUnbelowOf zs = _ by rw [resUnbelowOf, if_pos hv])
    go_enter Try.func26, Try.ntmps26
    go_wp2_with (first | (go_at_call 43; refine (validCube_any _ _ zs h hl).mono ?_; rintro e w' ⟨rfl, rfl⟩) | (go_at_call 44; refine (below_any _ _ zs h hv (-1) (.inr rfl)).mono ?_; rintro e w' ⟨r, rfl, hr, hb⟩))
    go_ret
    exact ret_own hr HR.out hb
  · have hv' : cube zs = false := by simpa using hv
    have HR := Lib.hid (show resUnbelowOf zs = [] by rw [resUnbelowOf, if_neg hv])
    clear hv
    go_enter Try.func26, Try.ntmps26
    go_wp2_with (go_at_call 43; refine (validCube_any _ _ zs h hl).mono ?_; rintro e w' ⟨rfl, rfl⟩)
    go_ret
    exact ret_own (Own.nil _ _) HR.out (Below.refl _ _)
end Go.Proofs.Ytjakoeamnmdcmaa
