/- Texts and patterns: which are ones. Conditions: none. -/
import Derived.Test.YtfbflokkjgbabaaMem
namespace Go.Proofs.Ytfbflokkjgbabaa
open Go.RowKit
/-- The byte at i. -/
def bt (s : ByteArray) (i : Nat) : Nat := (s.data.toList.getD i 0).toNat
theorem bt_get {s : ByteArray} {k : Nat} (h : k < s.size) : (s[k]'h).toNat = bt s k := by
  obtain ⟨⟨l⟩⟩ := s
  have hl : k < l.length := h
  simp only [bt, List.getD, List.getElem?_eq_getElem hl, Option.getD_some]
  rfl
theorem bt_le (s : ByteArray) (i : Nat) : bt s i ≤ 255 := by
  have := (s.data.toList.getD i 0).toNat_lt
  unfold bt; omega
/-- A letter from a up to d, or a ? where it may be one. -/
def okC (q : Bool) (c : Nat) : Bool := (decide (97 ≤ c) && decide (c ≤ 100)) || (q && decide (c = 63))
def okTo (q : Bool) (s : ByteArray) (k : Nat) : Bool := (List.range k).all fun i => okC q (bt s i)
theorem okTo_succ (q : Bool) (s : ByteArray) (k : Nat) : okTo q s (k + 1) = (okTo q s k && okC q (bt s k)) := by
  simp [okTo, List.range_succ]
theorem okTo_bad {q : Bool} {s : ByteArray} {k n : Nat} (hk : k < n) (h : okC q (bt s k) = false) : okTo q s n = false := by
  rw [Bool.eq_false_iff]
  intro ha
  have := List.all_eq_true.1 ha k (List.mem_range.2 hk)
  rw [h] at this; cases this
def okT (q : Bool) (s : ByteArray) : Bool := decide (s.size ≤ 20) && okTo q s s.size
set_option maxHeartbeats 1000000 in
theorem validPattern_any (s : ByteArray) (q : Bool) (w : World) (hs : s.size ≤ 1048576) :
    Calls Try.prog 30 #[.string s, .bool q] w fun e w' => e = .returned (.bool (okT q s)) ∧ w = w' := by
  have HG := Lib.hid (fun k (h : k < s.size) => bt_get h)
  go_enter Try.func30, Try.ntmps30
  go_wp2
  go_loop [5] (fun i => ∃ k : Nat, k ≤ s.size ∧ i = .int .i64 k ∧ okTo q s k = true) (fun i => s.size - (intOf i).toNat)
  case atStart => exact ⟨0, Nat.zero_le _, rfl, rfl⟩
  case round =>
    obtain ⟨k, hk, rfl, ho⟩ := hrel
    have HO := Lib.hid ho
    clear ho
    by_cases hlt : k < s.size
    · have hb := HG.out k hlt
      have hl := bt_le s k
      obtain ⟨c, hc⟩ : ∃ c, c = bt s k := ⟨_, rfl⟩
      rw [← hc] at hb hl
      have hcc : bt s k = c := hc.symm
      clear hc
      by_cases h1 : c < 97
      · have g1 : (c : Int) < 97 := by omega
        have g2 : ¬ (100 : Int) < (c : Int) := by omega
        have f1 : decide ((c : Int) < 97) = true := decide_eq_true g1
        cases q with
        | false =>
          have HE := Lib.hid (show okT false s = false by rw [okT, okTo_bad hlt (by rw [hcc]; exact by simp [okC]; omega), Bool.and_false])
          clear hcc
          go_wp2_with fail
          go_ret
          exact ⟨ret_bool HE.out.symm, rfl⟩
        | true =>
          by_cases h3 : c = 63
          · have g3 : ((c : Int) != 63) = false := by rw [h3]; rfl
            have HC := Lib.hid (show okC true c = true by rw [h3]; rfl)
            clear h3
            have HE := Lib.hid (show okTo true s (k + 1) = true by rw [okTo_succ, HO.out, hcc]; exact HC.out)
            clear hcc
            go_wp2_with fail
            go_round
            case rel => exact ⟨k + 1, hlt, by go_num, HE.out⟩
            case measure => simp [intOf]; omega
          · have g3 : ((c : Int) != 63) = true := by rw [bne_iff_ne]; omega
            have HE := Lib.hid (show okT true s = false by rw [okT, okTo_bad hlt (by rw [hcc]; exact by simp [okC]; omega), Bool.and_false])
            clear hcc
            go_wp2_with fail
            go_ret
            exact ⟨ret_bool HE.out.symm, rfl⟩
      · by_cases h2 : 100 < c
        · have g1 : ¬ (c : Int) < 97 := by omega
          have g2 : (100 : Int) < (c : Int) := by omega
          have f1 : decide ((c : Int) < 97) = false := decide_eq_false g1
          have f2 : decide ((100 : Int) < (c : Int)) = true := decide_eq_true g2
          cases q with
          | false =>
            have HE := Lib.hid (show okT false s = false by rw [okT, okTo_bad hlt (by rw [hcc]; exact by simp [okC]; omega), Bool.and_false])
            clear hcc
            go_wp2_with fail
            go_ret
            exact ⟨ret_bool HE.out.symm, rfl⟩
          | true =>
            have g3 : ((c : Int) != 63) = true := by rw [bne_iff_ne]; omega
            have HE := Lib.hid (show okT true s = false by rw [okT, okTo_bad hlt (by rw [hcc]; exact by simp [okC]; omega), Bool.and_false])
            clear hcc
            go_wp2_with fail
            go_ret
            exact ⟨ret_bool HE.out.symm, rfl⟩
        · have g1 : ¬ (c : Int) < 97 := by omega
          have g2 : ¬ (100 : Int) < (c : Int) := by omega
          have f1 : decide ((c : Int) < 97) = false := decide_eq_false g1
          have f2 : decide ((100 : Int) < (c : Int)) = false := decide_eq_false g2
          have HC := Lib.hid (show okC q c = true by simp [okC]; omega)
          have HE := Lib.hid (show okTo q s (k + 1) = true by rw [okTo_succ, HO.out, hcc]; exact HC.out)
          clear hcc
          go_wp2_with fail
          go_round
          case rel => exact ⟨k + 1, hlt, by go_num, HE.out⟩
          case measure => simp [intOf]; omega
    · have e : k = s.size := by omega
      have HE := Lib.hid (show okT q s = decide (s.size ≤ 20) by rw [okT, ← e, HO.out, Bool.and_true])
      clear e
      go_wp2_with fail
      go_ret
      exact ⟨ret_bool (by rw [HE.out, decide_eq_decide]; omega), rfl⟩
/-- A text and a pattern. -/
def okM2 (s p : ByteArray) : Bool := okT false s && okT true p && decide (1 ≤ p.size)
set_option maxHeartbeats 2000000 in
theorem textsOk_any (s p : ByteArray) (w : World) (hs : s.size ≤ 1048576) (hp : p.size ≤ 1048576) :
    Calls Try.prog 29 #[.string s, .string p] w fun e w' => e = .returned (.bool (okM2 s p)) ∧ w = w' := by
  have HG := Lib.hid (fun (s : ByteArray) k (h : k < s.size) => bt_get h)
  by_cases hs1 : 20 < s.size
  · have HE := Lib.hid (show okM2 s p = false by rw [okM2, okT, decide_eq_false (by omega), Bool.false_and, Bool.false_and, Bool.false_and])
    have g1 : (20 : Int) < (s.size : Int) := by omega
    go_enter Try.func29, Try.ntmps29
    go_wp2_with fail
    go_ret
    exact ⟨ret_bool HE.out.symm, rfl⟩
  by_cases hp0 : p.size < 1
  · have HE := Lib.hid (show okM2 s p = false by rw [okM2, show decide (1 ≤ p.size) = false from decide_eq_false (by omega), Bool.and_false])
    have g1 : ¬ (20 : Int) < (s.size : Int) := by omega
    have g2 : (p.size : Int) < 1 := by omega
    go_enter Try.func29, Try.ntmps29
    go_wp2_with fail
    go_ret
    exact ⟨ret_bool HE.out.symm, rfl⟩
  by_cases hp1 : 20 < p.size
  · have HE := Lib.hid (show okM2 s p = false by
      have hx : okT true p = false := by rw [okT, decide_eq_false (by omega), Bool.false_and]
      rw [okM2, hx, Bool.and_false, Bool.false_and])
    have g1 : ¬ (20 : Int) < (s.size : Int) := by omega
    have g2 : ¬ (p.size : Int) < 1 := by omega
    have g3 : (20 : Int) < (p.size : Int) := by omega
    go_enter Try.func29, Try.ntmps29
    go_wp2_with fail
    go_ret
    exact ⟨ret_bool HE.out.symm, rfl⟩
  have g1 : ¬ (20 : Int) < (s.size : Int) := by omega
  have g2 : ¬ (p.size : Int) < 1 := by omega
  have g3 : ¬ (20 : Int) < (p.size : Int) := by omega
  have d1 : decide ((20 : Int) < (s.size : Int)) = false := decide_eq_false g1
  have d2 : decide ((p.size : Int) < 1) = false := decide_eq_false g2
  have d3 : decide ((20 : Int) < (p.size : Int)) = false := decide_eq_false g3
  have HK := Lib.hid (show okTo false s s.size = true → okTo true p p.size = true → okM2 s p = true from fun h1 h2 => by
    rw [okM2, okT, okT, h1, h2, decide_eq_true (show s.size ≤ 20 by omega), decide_eq_true (show p.size ≤ 20 by omega), decide_eq_true (show 1 ≤ p.size by omega)]; rfl)
  go_enter Try.func29, Try.ntmps29
  go_wp2
  clear d1 d2 d3 g1 g2 g3
  go_loop [22] (fun i => ∃ k : Nat, k ≤ s.size ∧ i = .int .i64 k ∧ okTo false s k = true) (fun i => s.size - (intOf i).toNat)
  case atStart => exact ⟨0, Nat.zero_le _, rfl, rfl⟩
  case round =>
    obtain ⟨k, hk, rfl, ho⟩ := hrel
    have HO := Lib.hid ho
    clear ho
    by_cases hlt : k < s.size
    · have hb := HG.out s k hlt
      have hl := bt_le s k
      obtain ⟨c, hc⟩ : ∃ c, c = bt s k := ⟨_, rfl⟩
      rw [← hc] at hb hl
      have hcc : bt s k = c := hc.symm
      clear hc
      by_cases h1 : c < 97
      · have f1 : decide ((c : Int) < 97) = true := decide_eq_true (by omega)
        have g1 : (c : Int) < 97 := by omega
        have HE := Lib.hid (show okM2 s p = false by rw [okM2, okT, okTo_bad hlt (by rw [hcc]; exact (by simp [okC]; omega)), Bool.and_false, Bool.false_and, Bool.false_and])
        clear hcc
        go_wp2_with fail
        go_ret
        exact ⟨ret_bool HE.out.symm, rfl⟩
      · by_cases h2 : 100 < c
        · have f1 : decide ((c : Int) < 97) = false := decide_eq_false (by omega)
          have f2 : decide ((100 : Int) < (c : Int)) = true := decide_eq_true (by omega)
          have g1 : ¬ (c : Int) < 97 := by omega
          have g2 : (100 : Int) < (c : Int) := by omega
          have HE := Lib.hid (show okM2 s p = false by rw [okM2, okT, okTo_bad hlt (by rw [hcc]; exact (by simp [okC]; omega)), Bool.and_false, Bool.false_and, Bool.false_and])
          clear hcc
          go_wp2_with fail
          go_ret
          exact ⟨ret_bool HE.out.symm, rfl⟩
        · have f1 : decide ((c : Int) < 97) = false := decide_eq_false (by omega)
          have f2 : decide ((100 : Int) < (c : Int)) = false := decide_eq_false (by omega)
          have g1 : ¬ (c : Int) < 97 := by omega
          have g2 : ¬ (100 : Int) < (c : Int) := by omega
          have HC := Lib.hid (show okC false c = true by simp [okC]; omega)
          have HE := Lib.hid (show okTo false s (k + 1) = true by rw [okTo_succ, HO.out, hcc]; exact HC.out)
          clear hcc
          go_wp2_with fail
          go_round
          case rel => exact ⟨k + 1, hlt, by go_num, HE.out⟩
          case measure => simp [intOf]; omega
    · have e : k = s.size := by omega
      rw [e] at HO
      have hki : (s.size : Int) ≤ (k : Int) := by omega
      clear e
      go_wp2
      go_loop [38] (fun i => ∃ k : Nat, k ≤ p.size ∧ i = .int .i64 k ∧ okTo true p k = true) (fun i => p.size - (intOf i).toNat)
      case atStart => exact ⟨0, Nat.zero_le _, rfl, rfl⟩
      case round =>
        have HO1 := HO
        clear hlt hk hki HO
        obtain ⟨k, hk, rfl, ho⟩ := hrel
        have HO := Lib.hid ho
        clear ho
        by_cases hlt : k < p.size
        · have hb := HG.out p k hlt
          have hl := bt_le p k
          obtain ⟨c, hc⟩ : ∃ c, c = bt p k := ⟨_, rfl⟩
          rw [← hc] at hb hl
          have hcc : bt p k = c := hc.symm
          clear hc
          by_cases h3 : c = 63
          · have g3 : ((c : Int) != 63) = false := by rw [h3]; rfl
            have HC := Lib.hid (show okC true c = true by rw [h3]; rfl)
            clear h3
            have HE := Lib.hid (show okTo true p (k + 1) = true by rw [okTo_succ, HO.out, hcc]; exact HC.out)
            clear hcc
            go_wp2_with fail
            go_round
            case rel => exact ⟨k + 1, hlt, by go_num, HE.out⟩
            case measure => simp [intOf]; omega
          · have g3 : ((c : Int) != 63) = true := by rw [bne_iff_ne]; omega
            by_cases h1 : c < 97
            · have f1 : decide ((c : Int) < 97) = true := decide_eq_true (by omega)
              have g1 : (c : Int) < 97 := by omega
              have HE := Lib.hid (show okM2 s p = false by
                have hx : okT true p = false := by rw [okT, okTo_bad hlt (by rw [hcc]; exact (by simp [okC]; omega)), Bool.and_false]
                rw [okM2, hx, Bool.and_false, Bool.false_and])
              clear hcc
              go_wp2_with fail
              go_ret
              exact ⟨ret_bool HE.out.symm, rfl⟩
            · by_cases h2 : 100 < c
              · have f1 : decide ((c : Int) < 97) = false := decide_eq_false (by omega)
                have f2 : decide ((100 : Int) < (c : Int)) = true := decide_eq_true (by omega)
                have g1 : ¬ (c : Int) < 97 := by omega
                have g2 : (100 : Int) < (c : Int) := by omega
                have HE := Lib.hid (show okM2 s p = false by
                  have hx : okT true p = false := by rw [okT, okTo_bad hlt (by rw [hcc]; exact (by simp [okC]; omega)), Bool.and_false]
                  rw [okM2, hx, Bool.and_false, Bool.false_and])
                clear hcc
                go_wp2_with fail
                go_ret
                exact ⟨ret_bool HE.out.symm, rfl⟩
              · have f1 : decide ((c : Int) < 97) = false := decide_eq_false (by omega)
                have f2 : decide ((100 : Int) < (c : Int)) = false := decide_eq_false (by omega)
                have g1 : ¬ (c : Int) < 97 := by omega
                have g2 : ¬ (100 : Int) < (c : Int) := by omega
                have HC := Lib.hid (show okC true c = true by simp [okC]; omega)
                have HE := Lib.hid (show okTo true p (k + 1) = true by rw [okTo_succ, HO.out, hcc]; exact HC.out)
                clear hcc
                go_wp2_with fail
                go_round
                case rel => exact ⟨k + 1, hlt, by go_num, HE.out⟩
                case measure => simp [intOf]; omega
        · have e : k = p.size := by omega
          rw [e] at HO
          have HE := Lib.hid (HK.out HO1.out HO.out)
          have hki : (p.size : Int) ≤ (k : Int) := by omega
          clear e
          go_wp2_with fail
          go_ret
          exact ⟨ret_bool HE.out.symm, rfl⟩
end Go.Proofs.Ytfbflokkjgbabaa
