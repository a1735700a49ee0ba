/- MatchesOf: the reference and the program return the same indices, for all arguments. Conditions: at most 1048576 bytes each. -/
import Derived.Test.YtokhgkmdeionoaaMiss6b
namespace Go.Proofs.Ytokhgkmdeionoaa
open Go.RowKit
/-- The sum of the squares of the first k differences, from index i on. -/
def sqM (s p : ByteArray) (i : Nat) : Nat → Int
  | 0 => 0
  | k + 1 => sqM s p i k + if bt p k ≠ 63 then ((bt p k : Int) - (bt s (i + k) : Int)) * ((bt p k : Int) - (bt s (i + k) : Int)) else 0
theorem sq255 {x : Int} (h1 : -255 ≤ x) (h2 : x ≤ 255) : 0 ≤ x * x ∧ x * x ≤ 65025 := by
  have a : x.natAbs ≤ 255 := by omega
  have b : x.natAbs * x.natAbs ≤ 255 * 255 := Nat.mul_le_mul a a
  have c : ((x.natAbs * x.natAbs : Nat) : Int) = x * x := Int.natAbs_mul_self
  omega
theorem sqM_bd (s p : ByteArray) (i k : Nat) : 0 ≤ sqM s p i k ∧ sqM s p i k ≤ 65025 * k := by
  induction k with
  | zero => exact ⟨Int.le_refl _, by simp [sqM]⟩
  | succ k ih =>
    have a := bt_le p k
    have b := bt_le s (i + k)
    have c := sq255 (x := (bt p k : Int) - (bt s (i + k) : Int)) (by omega) (by omega)
    simp only [sqM]
    split <;> omega
theorem sq_zero_iff {x y : Nat} : ((x : Int) - (y : Int)) * ((x : Int) - (y : Int)) = 0 ↔ x = y := by
  constructor
  · intro h
    rcases Int.mul_eq_zero.1 h with h | h <;> omega
  · rintro rfl; simp
theorem sqM_zero (s p : ByteArray) (i k : Nat) : sqM s p i k = 0 ↔ msTo s p i k = 0 := by
  induction k with
  | zero => simp [sqM, msTo]
  | succ k ih =>
    have h0 := sqM_bd s p i k
    have a := bt_le p k
    have b := bt_le s (i + k)
    have c := sq255 (x := (bt p k : Int) - (bt s (i + k) : Int)) (by omega) (by omega)
    have z := @sq_zero_iff (bt p k) (bt s (i + k))
    simp only [sqM, msTo]
    by_cases h1 : bt p k = 63
    · rw [if_neg (by simpa using h1), if_neg (fun h => h.1 h1)]; omega
    · rw [if_pos h1]
      by_cases h2 : bt p k = bt s (i + k)
      · rw [if_neg (fun h => h.2 h2), z.2 h2]; omega
      · rw [if_pos ⟨h1, h2⟩]
        have : ((bt p k : Int) - (bt s (i + k) : Int)) * ((bt p k : Int) - (bt s (i + k) : Int)) ≠ 0 := fun h => h2 (z.1 h)
        omega
/-- Of the first n indices those without a miss. -/
def mtL (s p : ByteArray) : Nat → List Int
  | 0 => []
  | i + 1 => if msTo s p i p.size = 0 then mtL s p i ++ [(i : Int)] else mtL s p i
theorem mtL_yes {s p : ByteArray} {i : Nat} (h : msTo s p i p.size = 0) : mtL s p (i + 1) = mtL s p i ++ [(i : Int)] := if_pos h
theorem mtL_no {s p : ByteArray} {i : Nat} (h : msTo s p i p.size ≠ 0) : mtL s p (i + 1) = mtL s p i := if_neg h
theorem mtL_len (s p : ByteArray) (i : Nat) : (mtL s p i).length ≤ i := by
  induction i with
  | zero => exact Nat.le_refl _
  | succ i ih =>
    simp only [mtL]; split
    · simp; omega
    · omega
def resMatchesOf (s p : ByteArray) : List Int := if okM2 s p = true then mtL s p (s.size + 1 - p.size) else []
theorem resMatchesOf_len (s p : ByteArray) : (resMatchesOf s p).length ≤ 1048576 := by
  unfold resMatchesOf
  split
  · rename_i h; have := okM2_len h; have := mtL_len s p (s.size + 1 - p.size); omega
  · simp
set_option maxHeartbeats 1000000 in
theorem matches_any (s p : ByteArray) (w : World) (l1 : s.size ≤ 20) (l2 : 1 ≤ p.size) (l3 : p.size ≤ 20) :
    Calls Try.prog 37 #[.string s, .string p] w fun e w' => ∃ r, e = .returned r ∧ Own w' w.heap.size r (mtL s p (s.size + 1 - p.size)) ∧ Below w.heap.size w w' := by
  have HG := Lib.hid (fun (s : ByteArray) k (h : k < s.size) => bt_get h)
  go_enter Try.func37, Try.ntmps37
  go_wp2_with fail
  go_loopw [5, 6, 7, 8, 9] (fun u i _ _ _ wr => ∃ k : Nat, k ≤ s.size + 1 - p.size ∧ i = .int .i64 k ∧ Own wr w.heap.size u (mtL s p k) ∧ Below w.heap.size w wr) (fun _ i _ _ _ _ => s.size + 1 - (intOf i).toNat)
  case atStart => exact ⟨0, Nat.zero_le _, rfl, Own.lit0 w (Nat.le_refl _), (Below.refl _ _).alloc (Nat.le_refl _) _⟩
  case round =>
    obtain ⟨i, hi, rfl, hown, hbel⟩ := hrel
    by_cases hlt : i + p.size ≤ s.size
    · have g0 : (i : Int) + (p.size : Int) ≤ (s.size : Int) := by omega
      go_wp2
      go_loopw [7, 8, 9] (fun c j _ wr2 => ∃ k : Nat, k ≤ p.size ∧ j = .int .i64 k ∧ c = .int .i64 (sqM s p i k) ∧ Quiet wr wr2) (fun _ j _ _ => p.size - (intOf j).toNat)
      case atStart => exact ⟨0, Nat.zero_le _, rfl, rfl, Quiet.refl _⟩
      case round =>
        obtain ⟨k, hk, rfl, rfl, hq⟩ := hrel
        have hcl := sqM_bd s p i k
        have HN := Lib.hid (show sqM s p i (k + 1) = sqM s p i k + if bt p k ≠ 63 then ((bt p k : Int) - (bt s (i + k) : Int)) * ((bt p k : Int) - (bt s (i + k) : Int)) else 0 from rfl)
        have HZ := Lib.hid (sqM_zero s p i k)
        obtain ⟨cc, hcc⟩ : ∃ cc, cc = sqM s p i k := ⟨_, rfl⟩
        rw [← hcc] at hcl HN HZ ⊢
        clear hcc
        by_cases hltk : k < p.size
        · have b1 := HG.out p k hltk
          have b2 := HG.out s (i + k) (by omega)
          have x1 := bt_le p k
          have y1 := bt_le s (i + k)
          have hsq := sq255 (x := (bt p k : Int) - (bt s (i + k) : Int)) (by omega) (by omega)
          obtain ⟨x, hx⟩ : ∃ x, x = bt p k := ⟨_, rfl⟩
          obtain ⟨y, hy⟩ : ∃ y, y = bt s (i + k) := ⟨_, rfl⟩
          rw [← hx] at b1 HN x1 hsq
          rw [← hy] at b2 HN y1 hsq
          clear hx hy HZ
          have s1 : (k : Int) < (p.size : Int) := by omega
          have s2 : (i : Int) + (k : Int) < (s.size : Int) := by omega
          have s3 : ((i : Int) + (k : Int)).toNat = i + k := by omega
          have s4 : (0 : Int) ≤ (i : Int) + (k : Int) := by omega
          by_cases h63 : x = 63
          · have g3 : ((x : Int) != 63) = false := by rw [h63]; rfl
            have HE := Lib.hid (show sqM s p i (k + 1) = cc by rw [HN.out, if_neg (by simpa using h63)]; omega)
            clear h63 HN
            go_wp2
            go_roundw
            case rel => exact ⟨k + 1, by omega, by go_num, by rw [HE.out], hq⟩
            case measure => simp [intOf]; omega
          · have g3 : ((x : Int) != 63) = true := by rw [bne_iff_ne]; omega
            have HE := Lib.hid (show sqM s p i (k + 1) = cc + ((x : Int) - (y : Int)) * ((x : Int) - (y : Int)) by rw [HN.out, if_pos h63])
            clear h63 HN
            go_wp2
            go_quiet (fail)
            go_wp2
            go_roundw
            case rel => exact ⟨k + 1, by omega, by go_num, by rw [HE.out]; try go_num, hq.more nq⟩
            case measure => simp [intOf]; omega
        · have e : k = p.size := by omega
          rw [e] at HZ
          have hown := hown.keep hq.grown
          have hbel := Quiet.below hbel hq
          have hz := hbel.size
          have hL : (mtL s p i).length ≤ 1048576 := by have := mtL_len s p i; omega
          have hki : (p.size : Int) ≤ (k : Int) := by omega
          clear e hq hcl
          by_cases hc0 : cc = 0
          · have HF := Lib.hid (mtL_yes (HZ.out.1 hc0))
            subst hc0
            go_wp2_with (at_builtin; refine wpList_app rfl _ _ rfl w.heap.size u5 (mtL s p i) (i : Int) rfl hown rfl hL (by omega) ?_)
            intro v' w1 hown' hg
            have hbel' := below_app hbel hown hz hg
            clear hg hown hbel
            go_wp2
            go_roundw
            case rel => exact ⟨i + 1, by omega, by go_num, by rw [HF.out]; exact hown', hbel'⟩
            case measure => simp [intOf]; omega
          · have HF := Lib.hid (mtL_no (fun h => hc0 (HZ.out.2 h)))
            have g5 : (cc == 0) = false := by rw [beq_eq_false_iff_ne]; exact hc0
            go_wp2
            go_roundw
            case rel => exact ⟨i + 1, by omega, by go_num, by rw [HF.out]; exact hown, hbel⟩
            case measure => simp [intOf]; omega
    · have e : i = s.size + 1 - p.size := by omega
      have g0 : ¬ (i : Int) + (p.size : Int) ≤ (s.size : Int) := by omega
      have HE := Lib.hid e
      clear e
      go_wp2
      go_ret
      exact ret_own hown (by rw [HE.out]) hbel
set_option maxHeartbeats 1000000 in
theorem implMatches_yes (s p : ByteArray) (w : World) (hok : okM2 s p = true) :
    Calls Try.prog 22 #[.string s, .string p] w fun e w' => ∃ r, e = .returned r ∧ Own w' w.heap.size r (resMatchesOf s p) ∧ Below w.heap.size w w' := by
  have HR := Lib.hid (show resMatchesOf s p = mtL s p (s.size + 1 - p.size) by rw [resMatchesOf, if_pos hok])
  have HM := Lib.hid (show resMissesOf s p = tab (s.size + 1 - p.size) (msF s p) by rw [resMissesOf, if_pos hok])
  obtain ⟨l1, l2, l3⟩ := okM2_len hok
  have V1 := Lib.hid (show ∀ W, Calls Try.prog 38 #[.string s, .string p] W fun e w' => e = .returned (.bool true) ∧ W = w' from fun W => (textsOk_any s p W (by omega) (by omega)).mono fun _ _ ⟨h1, h2⟩ => ⟨by rw [h1, hok], h2⟩)
  have V2 := Lib.hid (fun W => implMissesOf_any W s p (by omega) (by omega))
  obtain ⟨N, hN⟩ : ∃ N, N = s.size + 1 - p.size := ⟨_, rfl⟩
  rw [← hN] at HR HM
  have hN21 : N ≤ 21 := by omega
  clear hok hN
  go_enter Try.func22, Try.ntmps22
  go_wp2_with fail
  refine (V1.out _).mono ?_; rintro e w' ⟨rfl, rfl⟩
  go_wp2_with fail
  refine (V2.out _).mono ?_; rintro e w1 ⟨r, rfl, ho, bb⟩
  rw [HM.out] at ho
  have hb1 : Below w.heap.size w w1 := ((Below.refl _ _).alloc (Nat.le_refl _) _).grown (Below.grownBy bb) (by simp) (by simp)
  have hou : Own w1 w.heap.size (.slice (some ⟨w.heap.size, 0, none⟩) 0 0) [] := (Own.lit0 w (Nat.le_refl _)).keep (Below.grownBy bb)
  obtain ⟨ar, cr, rfl, -, -, -⟩ := ho.rd
  rw [tab_len] at ho ⊢
  have hap : Ap (.slice (some ⟨w.heap.size, 0, none⟩) 0 0) (.slice ar N cr) := fun g h1 h2 => by
    have h3 := (World.ownsRow.lt ho g h2).1
    simp only [Value.ownBlock, Option.some.injEq] at h1
    simp at h3
    omega
  have ho := ho.mono (lo' := w.heap.size) (by simp)
  clear bb
  go_wp2
  go_loopw [5, 6, 7, 17] (fun u _ _ i wr => ∃ k : Nat, k ≤ N ∧ i = .int .i64 k ∧ Own wr w.heap.size u (mtL s p k) ∧ Below w.heap.size w wr ∧ Own wr w.heap.size (.slice ar N cr) (tab N (msF s p)) ∧ Ap u (.slice ar N cr)) (fun _ _ _ i _ => N - (intOf i).toNat)
  case atStart => exact ⟨0, Nat.zero_le _, rfl, hou, hb1, ho, hap⟩
  case round =>
    clear hou hb1 ho hap
    obtain ⟨k, hk, rfl, hown, hbel, har, hap⟩ := hrel
    by_cases hlt : k < N
    · obtain ⟨g, rfl, -, -, hrow⟩ := har.cut (by omega)
      have c1 := hrow.getT k hlt
      have HZ := Lib.hid (show msF s p k = (msTo s p k p.size : Nat) from rfl)
      obtain ⟨x, hx⟩ : ∃ x, x = msF s p k := ⟨_, rfl⟩
      rw [← hx] at c1 HZ
      clear hx hrow
      have hz := hbel.size
      by_cases h0 : x = 0
      · have HF := Lib.hid (mtL_yes (s := s) (p := p) (i := k) (by have := HZ.out; omega))
        subst h0
        have hL : (mtL s p k).length ≤ 1048576 := by have := mtL_len s p k; omega
        go_wp2_with (at_builtin; refine wpList_appAt rfl _ _ rfl w.heap.size wr.heap.size u5 (mtL s p k) (k : Int) rfl (hown.alloc' _) rfl (by simp) hL (by simp; omega) ?_)
        intro v' w2 hown' hg hat
        have hbel' := below_app hbel hown hz hg
        have har' := (har.alloc' (.cells #[.int .i64 (k : Int)] 3)).kept hg hap.symm.or
        have hap' : Ap v' (.slice (some ⟨g, 0, none⟩) N cr) := hap.app har hat (by simp)
        clear hg hown hbel har hap hat
        go_wp2
        go_roundw
        case rel => exact ⟨k + 1, by omega, by go_num, by rw [HF.out]; exact hown', hbel', har', hap'⟩
        case measure => simp [intOf]; omega
      · have HF := Lib.hid (mtL_no (s := s) (p := p) (i := k) (fun h => h0 (by rw [HZ.out, h]; rfl)))
        have g5 : (x == 0) = false := by rw [beq_eq_false_iff_ne]; exact h0
        go_wp2
        go_roundw
        case rel => exact ⟨k + 1, by omega, by go_num, by rw [HF.out]; exact hown, hbel, har, hap⟩
        case measure => simp [intOf]; omega
    · have e : k = N := by omega
      have HE := Lib.hid e
      clear e
      go_wp2
      go_ret
      exact ret_own hown (by rw [HR.out, HE.out]) hbel
theorem implMatchesOf_any (w : World) (s p : ByteArray) (hs : s.size ≤ 1048576) (hp : p.size ≤ 1048576) :
    Calls Try.prog 22 #[.string s, .string p] w fun e w' => ∃ r, e = .returned r ∧ Own w' w.heap.size r (resMatchesOf s p) ∧ Below w.heap.size w w' := by
  by_cases hok : okM2 s p = true
  · exact implMatches_yes s p w hok
  · have hf : okM2 s p = false := by simpa using hok
    have V1 := Lib.hid (show ∀ W, Calls Try.prog 38 #[.string s, .string p] W fun e w' => e = .returned (.bool false) ∧ W = w' from fun W => (textsOk_any s p W hs hp).mono fun _ _ ⟨h1, h2⟩ => ⟨by rw [h1, hf], h2⟩)
    have HR := Lib.hid (show resMatchesOf s p = [] by rw [resMatchesOf, if_neg hok])
    clear hok hf
    go_enter Try.func22, Try.ntmps22
    go_wp2_with fail
    refine (V1.out _).mono ?_; rintro e w' ⟨rfl, rfl⟩
    go_wp2_with fail
    go_ret
    exact ret_own (Own.nil _ _) HR.out (Below.refl _ _)
theorem specMatchesOf_any (w : World) (s p : ByteArray) (hs : s.size ≤ 1048576) (hp : p.size ≤ 1048576) :
    Calls Try.prog 21 #[.string s, .string p] w fun e w' => ∃ r, e = .returned r ∧ Own w' w.heap.size r (resMatchesOf s p) ∧ Below w.heap.size w w' := by
  by_cases h1 : okT false s = true
  · have V1 := Lib.hid (show ∀ W, Calls Try.prog 36 #[.string s, .bool false] W fun e w' => e = .returned (.bool true) ∧ W = w' from fun W => (validPattern_any s false W hs).mono fun _ _ ⟨e1, e2⟩ => ⟨by rw [e1, h1], e2⟩)
    by_cases h2 : okT true p = true
    · have V2 := Lib.hid (show ∀ W, Calls Try.prog 36 #[.string p, .bool true] W fun e w' => e = .returned (.bool true) ∧ W = w' from fun W => (validPattern_any p true W hp).mono fun _ _ ⟨e1, e2⟩ => ⟨by rw [e1, h2], e2⟩)
      by_cases h0 : 1 ≤ p.size
      · have hok : okM2 s p = true := by rw [okM2, h1, h2, decide_eq_true h0]; rfl
        obtain ⟨l1, l2, l3⟩ := okM2_len hok
        have HR := Lib.hid (show resMatchesOf s p = mtL s p (s.size + 1 - p.size) by rw [resMatchesOf, if_pos hok])
        have V3 := Lib.hid (fun W => matches_any s p W l1 l2 l3)
        have hemp := emp_no h0
        clear hok h1 h2
        go_enter Try.func21, Try.ntmps21
        go_wp2_with fail
        refine (V1.out _).mono ?_; rintro e w' ⟨rfl, rfl⟩
        go_wp2_with fail
        refine (V2.out _).mono ?_; rintro e w' ⟨rfl, rfl⟩
        go_wp2_with fail
        refine (V3.out _).mono ?_; rintro e w' ⟨r, rfl, hr, hb⟩
        go_wp2_with fail
        go_ret
        exact ret_own hr HR.out hb
      · have HR := Lib.hid (show resMatchesOf s p = [] by rw [resMatchesOf, if_neg (by rw [okM2, show decide (1 ≤ p.size) = false from decide_eq_false h0, Bool.and_false]; simp)])
        have hemp : p.toList.isEmpty = true := emp_yes (by omega)
        clear h1 h2
        go_enter Try.func21, Try.ntmps21
        go_wp2_with fail
        refine (V1.out _).mono ?_; rintro e w' ⟨rfl, rfl⟩
        go_wp2_with fail
        refine (V2.out _).mono ?_; rintro e w' ⟨rfl, rfl⟩
        go_wp2_with fail
        go_ret
        exact ret_own (Own.nil _ _) HR.out (Below.refl _ _)
    · have h2' : okT true p = false := by simpa using h2
      have HR := Lib.hid (show resMatchesOf s p = [] by rw [resMatchesOf, if_neg (by rw [okM2, h2', Bool.and_false, Bool.false_and]; simp)])
      have V2 := Lib.hid (show ∀ W, Calls Try.prog 36 #[.string p, .bool true] W fun e w' => e = .returned (.bool false) ∧ W = w' from fun W => (validPattern_any p true W hp).mono fun _ _ ⟨e1, e2⟩ => ⟨by rw [e1, h2'], e2⟩)
      clear h1 h2 h2'
      go_enter Try.func21, Try.ntmps21
      go_wp2_with fail
      refine (V1.out _).mono ?_; rintro e w' ⟨rfl, rfl⟩
      go_wp2_with fail
      refine (V2.out _).mono ?_; rintro e w' ⟨rfl, rfl⟩
      go_wp2_with fail
      go_ret
      exact ret_own (Own.nil _ _) HR.out (Below.refl _ _)
  · have h1' : okT false s = false := by simpa using h1
    have HR := Lib.hid (show resMatchesOf s p = [] by rw [resMatchesOf, if_neg (by rw [okM2, h1', Bool.false_and, Bool.false_and]; simp)])
    have V1 := Lib.hid (show ∀ W, Calls Try.prog 36 #[.string s, .bool false] W fun e w' => e = .returned (.bool false) ∧ W = w' from fun W => (validPattern_any s false W hs).mono fun _ _ ⟨e1, e2⟩ => ⟨by rw [e1, h1'], e2⟩)
    clear h1 h1'
    go_enter Try.func21, Try.ntmps21
    go_wp2_with fail
    refine (V1.out _).mono ?_; rintro e w' ⟨rfl, rfl⟩
    go_wp2_with fail
    go_ret
    exact ret_own (Own.nil _ _) HR.out (Below.refl _ _)
end Go.Proofs.Ytokhgkmdeionoaa
