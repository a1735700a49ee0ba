/- BelowOf and UnbelowOf of the program: the rows that the reference returns. Conditions: at most 1048576 numbers. -/
import Derived.Test.YtjakoeamnmdcmaaBelow1
namespace Go.Proofs.Ytjakoeamnmdcmaa
open Go.RowKit
theorem and_bit : ∀ j : Nat, j < 4 → ∀ x : Nat, x < 16 → (bits .and .i64 (x : Int) (pw2 j : Nat) != 0) = decide (bitN x j = 1) := by decide +kernel
set_option maxHeartbeats 1600000 in
theorem implUnbelowOf_any (w : World) (v : Value) (zs : List Int) (h : Rd w v zs) (hl : zs.length ≤ 1048576) :
    Calls Try.prog 27 #[v] w fun e w' => ∃ r, e = .returned r ∧ Own w' w.heap.size r (resUnbelowOf zs) ∧ Below w.heap.size w w' := by
  by_cases hv : cube zs = true
  · have HR0 := Lib.hid (show resUnbelowOf zs = _ by rw [resUnbelowOf, if_pos hv])
    obtain ⟨J, hJ, hn⟩ := cube_ex hv
    have HB := Lib.hid (vrow_all (cube_row hv))
    have h' := h
    have HL := Lib.hid hl
    obtain ⟨a, cap, rfl, hlc, hm, hc⟩ := h'
    have HT := Lib.hid (show zs = tab (pw2 J) (fun j => zs.getD j 0) by have h0 := tab_of zs; rw [hn] at h0; exact h0)
    have HR := Lib.hid (show resUnbelowOf zs = tab (pw2 J) (bwF (-1) zs J) by rw [HR0.out, bwL, hn, bitsN_pw2 hJ])
    rw [hn] at hlc h hc ⊢
    have HH := Lib.hid h
    have HN := Lib.hid hn
    have HV := Lib.hid hv
    have HC := Lib.hid hc
    have hpJ : pw2 J ≤ 16 := pw2_mono hJ
    have hpJ1 := pw2_pos J
    obtain ⟨n, hnn⟩ : ∃ n, n = pw2 J := ⟨_, rfl⟩
    rw [← hnn] at hlc HH HC HR HT HN hpJ hpJ1 ⊢
    have HNJ := Lib.hid hnn
    clear hc hm h hv hn hnn hl HR0
    go_enter Try.func27, Try.ntmps27
    go_wp2_with (first | (go_at_call 45; refine (whole_any _ _ zs HH.out HL.out).mono ?_; rintro e w' ⟨rfl, hww⟩; have e2 := HV.out; rw [e2]; subst hww; clear e2) | (at_builtin; refine wpList_cat rfl _ _ rfl w.heap.size _ _ [] zs rfl (Own.lit0 w (Nat.le_refl _)) rfl (HH.out.alloc _) (by rw [HN.out]; simp; omega) (by simp) ?_))
    intro v1 w1 hown hg
    have hb1 := below_cat ((Below.refl w.heap.size w).alloc (Nat.le_refl _) _) (Own.lit0 w (Nat.le_refl _)) (by simp) hg
    have hown' : Own w1 w.heap.size v1 zs := by simpa using hown
    obtain ⟨g, c, hv1, hg1, hg2, hrow⟩ := hown'.row (by rw [HN.out]; omega)
    rw [HN.out] at hrow hv1
    subst hv1
    have hrow : Row w1 w.heap.size g n c (tab n (bwF (-1) zs 0)) := by rw [HT.out] at hrow; exact hrow
    clear hg hown hown'
    go_wp2
    go_loopw [4, 5, 20] (fun p _ _ wr => ∃ j : Nat, j ≤ J ∧ p = .int .i64 (pw2 j : Nat) ∧ Row wr w.heap.size g n c (tab n (bwF (-1) zs j)) ∧ Below w.heap.size w wr) (fun p _ _ _ => 2 * n - (intOf p).toNat)
    case atStart => exact ⟨0, Nat.zero_le _, rfl, hrow, hb1⟩
    case round =>
      obtain ⟨j, hj, rfl, hr, hbel⟩ := hrel
      clear hrow hb1
      have hpb := pw2_bd (show j ≤ 20 by omega)
      have hpp := pw2_pos j
      by_cases hlt : j < J
      · have hlt' : pw2 j < n := by rw [HNJ.out]; exact pw2_lt hlt
        have HP2 := Lib.hid (show pw2 (j + 1) = 2 * pw2 j from rfl)
        have HAB := Lib.hid (and_bit j (by omega))
        obtain ⟨p, hp⟩ : ∃ p, p = pw2 j := ⟨_, rfl⟩
        rw [← hp] at hpb hpp hlt' HP2 HAB ⊢
        have HP := Lib.hid hp
        clear hp
        obtain ⟨wo, rfl⟩ : ∃ wo : World, wo = wr := ⟨_, rfl⟩
        go_wp2
        go_loopw [5, 20] (fun _ i wr => ∃ x : Nat, x ≤ n ∧ i = .int .i64 (x : Int) ∧ Row wr w.heap.size g n c (tab n (bwI (-1) zs j x)) ∧ Below w.heap.size w wr) (fun _ i _ => n - (intOf i).toNat)
        case atStart => exact ⟨0, Nat.zero_le _, rfl, hr.to fun y _ => bwI_first (-1) zs j y, hbel⟩
        case round =>
          obtain ⟨x, hx, rfl, hr', hbel'⟩ := hrel
          clear hr hbel
          by_cases hltx : x < n
          · have hab := HAB.out x (by omega)
            by_cases hq : bitN x j = 1
            · rw [decide_eq_true hq] at hab
              have hpx : p ≤ x := by rw [HP.out]; exact (bit_facts j (by omega) x (by omega) hq).2
              have h1 := hr'.getT x hltx
              rw [bwI_at] at h1
              have h2 := hr'.getT (x - p) (by omega)
              rw [show bwI (-1) zs j x (x - p) = bwF (-1) zs j (x - p) by rw [HP.out]; exact bwI_back (by omega) (by omega) hq] at h2
              have h3 := hr'.free x
              have hx2 := bwF_bd' (.inr rfl) HB.out (show j ≤ 4 by omega) x
              have hy2 := bwF_bd' (.inr rfl) HB.out (show j ≤ 4 by omega) (x - p)
              have HE := Lib.hid (show ∀ y, bwI (-1) zs j (x + 1) y = if y = x then bwF (-1) zs j x - bwF (-1) zs j (x - p) else bwI (-1) zs j x y from fun y => by rw [bwI_yes hq y, HP.out]; congr 1; omega)
              obtain ⟨y, hy⟩ : ∃ y, y = bwF (-1) zs j (x - p) := ⟨_, rfl⟩
              rw [← hy] at h2 hy2 HE
              obtain ⟨z, hz⟩ : ∃ z, z = bwF (-1) zs j x := ⟨_, rfl⟩
              rw [← hz] at h1 hx2 HE
              clear hy hz hq
              have s0 : (0 : Int) ≤ (x : Int) := by omega
              have s1 : (x : Int) < (n : Int) := by omega
              have s2 : (0 : Int) ≤ (x : Int) - (p : Int) := by omega
              have s3 : (x : Int) - (p : Int) < (n : Int) := by omega
              have s4 : ((x : Int) - (p : Int)).toNat = x - p := by omega
              have s5 : IntKind.i64.wrap ((x : Int) - (p : Int)) = (x : Int) - (p : Int) := IntWalk.i64_in _ (by omega)
              have s6 : IntKind.i64.wrap (z - y) = z - y := IntWalk.i64_in _ (by omega)
              go_wp2
              go_still_tail 12, (by kernel_rfl)
              change wpList _ _ _ _ _ wr.drew
              clear s4 s5 s6 hab
              go_wp2
              go_roundw
              case rel => exact ⟨x + 1, by omega, by go_num, hr'.drew.setT x _ fun y' _ => HE.out y', hbel'.drew.setCell (by exact hg1) _⟩
              case measure => simp [intOf]; omega
            · rw [decide_eq_false hq] at hab
              have HQ := Lib.hid hq
              clear hq
              go_wp2
              go_roundw
              case rel => exact ⟨x + 1, by omega, by go_num, hr'.to fun y _ => bwI_no HQ.out y, hbel'⟩
              case measure => simp [intOf]; omega
          · have hge : n ≤ x := by omega
            go_wp2
            go_roundw
            case rel => exact ⟨j + 1, by omega, by rw [HP2.out]; go_num, hr'.to fun y hy => bwI_last (by omega), hbel'⟩
            case measure => simp [intOf]; omega
      · have e : j = J := by omega
        have hge : ¬ pw2 j < n := by rw [HNJ.out, e]; omega
        have HE := Lib.hid e
        clear e
        go_wp2
        go_ret
        exact ret_own hr.own (by rw [HR.out, HE.out]) hbel
  · have hv' : cube zs = false := by simpa using hv
    have HR := Lib.hid (show resUnbelowOf zs = [] by rw [resUnbelowOf, if_neg hv])
    clear hv
    go_enter Try.func27, Try.ntmps27
    go_wp2_with (go_at_call 45; refine (whole_any _ _ zs h hl).mono ?_; rintro e w' ⟨rfl, rfl⟩)
    go_ret
    exact ret_own (Own.nil _ _) HR.out (Below.refl _ _)
/-- A sum with coefficients. -/
def lsum (c : Nat → Nat) (zs : List Int) : Nat → Int
  | 0 => 0
  | n + 1 => lsum c zs n + (c n : Int) * zs.getD n 0
theorem lsum_congr {c c' : Nat → Nat} (zs : List Int) {n : Nat} (h : ∀ t, t < n → c t = c' t) : lsum c zs n = lsum c' zs n := by
  induction n with
  | zero => rfl
  | succ n ih => simp only [lsum]; rw [ih (fun t ht => h t (by omega)), h n (by omega)]
theorem lsum_add (c c' : Nat → Nat) (zs : List Int) (n : Nat) : lsum (fun t => c t + c' t) zs n = lsum c zs n + lsum c' zs n := by
  induction n with
  | zero => rfl
  | succ n ih => simp only [lsum]; rw [ih, Int.natCast_add, Int.add_mul]; omega
theorem lsum_zero (zs : List Int) (i : Nat) {n : Nat} (h : n ≤ i) : lsum (fun t => if t = i then 1 else 0) zs n = 0 := by
  induction n with
  | zero => rfl
  | succ n ih => simp only [lsum]; rw [ih (by omega), if_neg (by omega)]; simp
theorem lsum_one (zs : List Int) (i : Nat) {n : Nat} (h : i < n) : lsum (fun t => if t = i then 1 else 0) zs n = zs.getD i 0 := by
  induction n with
  | zero => omega
  | succ n ih =>
    by_cases e : i = n
    · subst e; simp only [lsum]; rw [lsum_zero zs i (Nat.le_refl _)]; simp
    · simp only [lsum]; rw [ih (by omega), if_neg (by omega)]; simp
/-- The coefficient of the number at t. -/
def cf : Nat → Nat → Nat → Nat
  | 0, i, t => if t = i then 1 else 0
  | j + 1, i, t => if bitN i j = 1 then cf j i t + cf j (i - pw2 j) t else cf j i t
theorem bwF_lsum (zs : List Int) (n j : Nat) : ∀ i, i < n → bwF 1 zs j i = lsum (cf j i) zs n := by
  induction j with
  | zero => intro i hi; exact (lsum_one zs i hi).symm
  | succ j ih =>
    intro i hi
    by_cases h : bitN i j = 1
    · rw [bwF_yes h, ih i hi, ih (i - pw2 j) (by omega), Int.one_mul, ← lsum_add]
      exact lsum_congr zs fun t _ => by simp only [cf]; rw [if_pos h]
    · rw [bwF_no h, ih i hi]
      exact lsum_congr zs fun t _ => by simp only [cf]; rw [if_neg h]
/-- All digits of t are digits of i. -/
def subN (t i : Nat) : Bool := t &&& i == t
theorem cf_sub : ∀ J : Nat, J < 5 → ∀ i : Nat, i < pw2 J → ∀ t : Nat, t < pw2 J → cf J i t = if subN t i = true then 1 else 0 := by decide +kernel
theorem andNot_sub : ∀ t : Nat, t < 16 → ∀ i : Nat, i < 16 → (bits .andNot .i64 (t : Int) (i : Int) == 0) = subN t i := by decide +kernel
/-- The sum of the numbers at parts of i, of the first k. -/
def bsum (zs : List Int) (i : Nat) : Nat → Int
  | 0 => 0
  | k + 1 => if subN k i = true then bsum zs i k + zs.getD k 0 else bsum zs i k
theorem bsum_yes {zs : List Int} {i k : Nat} (h : subN k i = true) : bsum zs i (k + 1) = bsum zs i k + zs.getD k 0 := by simp only [bsum]; rw [if_pos h]
theorem bsum_no {zs : List Int} {i k : Nat} (h : subN k i = false) : bsum zs i (k + 1) = bsum zs i k := by simp only [bsum]; rw [if_neg (by simp [h])]
theorem bsum_lsum (zs : List Int) (i k : Nat) : bsum zs i k = lsum (fun t => if subN t i = true then 1 else 0) zs k := by
  induction k with
  | zero => rfl
  | succ k ih =>
    simp only [lsum]
    by_cases h : subN k i = true
    · rw [bsum_yes h, ih, if_pos h]; simp
    · rw [bsum_no (by simpa using h), ih, if_neg h]; simp
theorem bsum_bd {zs : List Int} (h : ∀ j, -1000 ≤ zs.getD j 0 ∧ zs.getD j 0 ≤ 1000) (i k : Nat) : -(1000 * (k : Int)) ≤ bsum zs i k ∧ bsum zs i k ≤ 1000 * k := by
  induction k with
  | zero => simp [bsum]
  | succ k ih => have := h k; simp only [bsum]; split <;> omega
theorem bsum_eq (zs : List Int) {J i : Nat} (hJ : J ≤ 4) (hi : i < pw2 J) : bwF 1 zs J i = bsum zs i (pw2 J) := by
  rw [bwF_lsum zs (pw2 J) J i hi, bsum_lsum]
  exact lsum_congr zs fun t ht => cf_sub J (by omega) i hi t ht
set_option maxHeartbeats 1600000 in
theorem implBelowOf_any (w : World) (v : Value) (zs : List Int) (h : Rd w v zs) (hl : zs.length ≤ 1048576) :
    Calls Try.prog 25 #[v] w fun e w' => ∃ r, e = .returned r ∧ Own w' w.heap.size r (resBelowOf zs) ∧ Below w.heap.size w w' := by
  by_cases hv : cube zs = true
  · have HR0 := Lib.hid (show resBelowOf zs = _ by rw [resBelowOf, if_pos hv])
    obtain ⟨J, hJ, hn⟩ := cube_ex hv
    have HB := Lib.hid (vrow_all (cube_row hv))
    have h' := h
    have HL := Lib.hid hl
    obtain ⟨a, cap, rfl, hlc, hm, hc⟩ := h'
    have HT := Lib.hid (show zs = tab (pw2 J) (fun j => zs.getD j 0) by have h0 := tab_of zs; rw [hn] at h0; exact h0)
    have HR := Lib.hid (show resBelowOf zs = tab (pw2 J) (bwF 1 zs J) by rw [HR0.out, bwL, hn, bitsN_pw2 hJ])
    rw [hn] at hlc h hc ⊢
    have HH := Lib.hid h
    have HN := Lib.hid hn
    have HV := Lib.hid hv
    have HC := Lib.hid hc
    have hpJ : pw2 J ≤ 16 := pw2_mono hJ
    have hpJ1 := pw2_pos J
    obtain ⟨n, hnn⟩ : ∃ n, n = pw2 J := ⟨_, rfl⟩
    rw [← hnn] at hlc HH HC HR HT HN hpJ hpJ1 ⊢
    have HNJ := Lib.hid hnn
    clear hc hm h hv hn hnn hl HR0
    have HQ := Lib.hid (show ∀ i, i < n → bsum zs i n = bwF 1 zs J i from fun i hi => by rw [HNJ.out] at hi ⊢; exact (bsum_eq zs hJ hi).symm)
    go_enter Try.func25, Try.ntmps25
    go_wp2_with (go_at_call 45; refine (whole_any _ _ zs HH.out HL.out).mono ?_; rintro e w' ⟨rfl, hww⟩; have e2 := HV.out; rw [e2]; subst hww; clear e2)
    go_loopw [3, 4, 5, 6, 7, 14] (fun u _ _ _ _ i wr => ∃ k : Nat, k ≤ n ∧ i = .int .i64 k ∧ Own wr w.heap.size u (tab k (bwF 1 zs J)) ∧ Below w.heap.size w wr) (fun _ _ _ _ _ i _ => n - (intOf i).toNat)
    case atStart => exact ⟨0, Nat.zero_le _, rfl, Own.lit0 w (Nat.le_refl _), (Below.refl _ _).alloc (Nat.le_refl _) _⟩
    case round =>
      obtain ⟨k, hk, rfl, hown, hbel⟩ := hrel
      by_cases hlt : k < n
      · obtain ⟨b, o, rfl, hcell⟩ := HC.out.resolve_left (by intro h0; have := HN.out; rw [h0] at this; simp at this; omega)
        have hbl := World.block_lt_of_cell? w _ (hcell 0 (by omega))
        have HCC := Lib.hid hcell
        clear hcell HC
        have HLk := Lib.hid (tab_len k (bwF 1 zs J))
        have HAN := Lib.hid (show ∀ t : Nat, t < 16 → (bits .andNot .i64 (t : Int) (k : Int) == 0) = subN t k from fun t ht => andNot_sub t ht k (by omega))
        obtain ⟨wo, rfl⟩ : ∃ wo : World, wo = wr := ⟨_, rfl⟩
        go_wp2
        go_loop [5, 6, 7, 19] (fun x _ _ i => ∃ j : Nat, j ≤ n ∧ i = .int .i64 j ∧ x = .int .i64 (bsum zs k j)) (fun _ _ _ i => n - (intOf i).toNat)
        case atStart => exact ⟨0, Nat.zero_le _, rfl, rfl⟩
        case round =>
          obtain ⟨j, hj, rfl, rfl⟩ := hrel
          have hfs := bsum_bd HB.out k j
          by_cases hlt2 : j < n
          · have h1 : wo.cell? ⟨b, o + j, none⟩ = some (.int .i64 (zs.getD j 0)) := (hbel.cell (p := ⟨b, o + j, none⟩) hbl).trans (HCC.out j (by omega))
            have hbj := HB.out j
            have han := HAN.out j (by omega)
            obtain ⟨x, hx⟩ : ∃ x, x = zs.getD j 0 := ⟨_, rfl⟩
            rw [← hx] at h1 hbj
            by_cases hsb : subN j k = true
            · have HX := Lib.hid (show bsum zs k (j + 1) = bsum zs k j + x by rw [hx]; exact bsum_yes hsb)
              rw [hsb] at han
              clear hx hsb
              go_wp2
              go_round
              case rel => exact ⟨j + 1, by omega, by go_num, by rw [HX.out]⟩
              case measure => simp [intOf]; omega
            · have hsb' : subN j k = false := by simpa using hsb
              have HX := Lib.hid (show bsum zs k (j + 1) = bsum zs k j from bsum_no hsb')
              rw [hsb'] at han
              clear hx hsb hsb'
              go_wp2
              go_round
              case rel => exact ⟨j + 1, by omega, by go_num, by rw [HX.out]⟩
              case measure => simp [intOf]; omega
          · have e : j = n := by omega
            subst e
            have hz := hbel.size
            have HE := Lib.hid (HQ.out k hlt)
            clear hlt2 hj
            go_wp2_with (at_builtin; refine wpList_app rfl _ _ rfl w.heap.size u3 (tab k (bwF 1 zs J)) (bsum zs k j) rfl hown rfl (by rw [HLk.out]; omega) (by omega) ?_)
            intro v' w1 hown' hg
            have hbel' := below_app hbel hown hz hg
            rw [HE.out, ← tab_snoc] at hown'
            clear hg hown hbel
            go_wp2
            go_roundw
            case rel => exact ⟨k + 1, by omega, by go_num, hown', hbel'⟩
            case measure => simp [intOf]; omega
      · go_wp2
        go_ret
        have e : k = n := by omega
        exact ret_own hown (by rw [HR.out, e]) hbel
  · have hv' : cube zs = false := by simpa using hv
    have HR := Lib.hid (show resBelowOf zs = [] by rw [resBelowOf, if_neg hv])
    clear hv
    go_enter Try.func25, Try.ntmps25
    go_wp2_with (go_at_call 45; refine (whole_any _ _ zs h hl).mono ?_; rintro e w' ⟨rfl, rfl⟩)
    go_ret
    exact ret_own (Own.nil _ _) HR.out (Below.refl _ _)
end Go.Proofs.Ytjakoeamnmdcmaa
