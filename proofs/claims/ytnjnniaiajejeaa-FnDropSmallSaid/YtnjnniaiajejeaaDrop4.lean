/- DropSmall: the reference and the program return the same row. Conditions: at most 1048576 numbers. -/
import Derived.Test.YtnjnniaiajejeaaRow1
import Derived.Test.YtnjnniaiajejeaaTab
namespace Go.Proofs.Ytnjnniaiajejeaa
open Go.RowKit
/-- The row with what is small put to 0, from the middle on up to index k. -/
def drT (zs : List Int) (e : Int) (k j : Nat) : Int := if zs.length - zs.length / 2 ≤ j ∧ j < k ∧ zs.getD j 0 < e ∧ -e < zs.getD j 0 then 0 else zs.getD j 0
def okDropSmall (zs : List Int) (e : Int) : Bool := vrow zs && inB 0 1000 e
def resDropSmall (zs : List Int) (e : Int) : List Int := if okDropSmall zs e = true then tab zs.length (drT zs e zs.length) else []
theorem resDropSmall_len (zs : List Int) (e : Int) : (resDropSmall zs e).length ≤ 1048576 := by
  unfold resDropSmall
  split
  · rename_i h
    simp only [okDropSmall, Bool.and_eq_true] at h
    rw [tab_len]; have := vrow_len h.1; omega
  · simp
theorem drT_first (zs : List Int) (e : Int) (j : Nat) : drT zs e (zs.length - zs.length / 2) j = zs.getD j 0 := by
  unfold drT; rw [if_neg (by omega)]
theorem drT_at (zs : List Int) (e : Int) (k : Nat) : drT zs e k k = zs.getD k 0 := by
  unfold drT; rw [if_neg (by omega)]
theorem drT_yes {zs : List Int} {e : Int} {k : Nat} (h0 : zs.length - zs.length / 2 ≤ k) (h1 : zs.getD k 0 < e) (h2 : -e < zs.getD k 0) (j : Nat) : drT zs e (k + 1) j = if j = k then 0 else drT zs e k j := by
  unfold drT
  by_cases hj : j = k
  · subst hj; rw [if_pos ⟨h0, by omega, h1, h2⟩, if_pos rfl]
  · rw [if_neg hj]
    have : (j < k + 1) = (j < k) := by rw [eq_iff_iff]; omega
    simp only [this]
theorem drT_no {zs : List Int} {e : Int} {k : Nat} (h : e ≤ zs.getD k 0 ∨ zs.getD k 0 ≤ -e) (j : Nat) : drT zs e (k + 1) j = drT zs e k j := by
  unfold drT
  by_cases hj : j = k
  · subst hj; rw [if_neg (by omega), if_neg (by omega)]
  · have : (j < k + 1) = (j < k) := by rw [eq_iff_iff]; omega
    simp only [this]
set_option maxHeartbeats 1000000 in
theorem specDropSmall_any (w : World) (v : Value) (zs : List Int) (h : Rd w v zs) (hl : zs.length ≤ 1048576) (e : Int) :
    Calls Try.prog 24 #[v, .int .i64 e] w fun e' w' => ∃ r, e' = .returned r ∧ Own w' w.heap.size r (resDropSmall zs e) ∧ Below w.heap.size w w' := by
  by_cases hv : vrow zs = true
  · by_cases hb : 0 ≤ e ∧ e ≤ 1000
    · obtain ⟨hb0, hb1⟩ := hb
      have HR := Lib.hid (show resDropSmall zs e = tab zs.length (drT zs e zs.length) by simp [resDropSmall, okDropSmall, hv, inB]; omega)
      have hl16 := vrow_len hv
      have HB := Lib.hid (vrow_all hv)
      have HF := Lib.hid (drT_first zs e)
      have HY := Lib.hid (show ∀ k : Nat, zs.length - zs.length / 2 ≤ k → zs.getD k 0 < e → -e < zs.getD k 0 → ∀ j : Nat, drT zs e (k + 1) j = if j = k then 0 else drT zs e k j from fun _ a b c j => drT_yes a b c j)
      have h' := h
      obtain ⟨a, cap, rfl, hlc, hm, hc⟩ := h'
      obtain ⟨n, hn⟩ : ∃ n, n = zs.length := ⟨_, rfl⟩
      rw [← hn] at hlc hl16 HR h hl HF HY ⊢
      have HH := Lib.hid h
      have HN := Lib.hid hn
      have HT := Lib.hid (show zs = tab n (fun j => zs.getD j 0) by have h0 := tab_of zs; rw [← hn] at h0; exact h0)
      clear hc hn hm h hl
      have hl : zs.length ≤ 1048576 := by rw [← HN.out]; omega
      go_enter Try.func24, Try.ntmps24
      go_wp2_with (first | (go_at_call 27; refine (validRow_any _ _ zs HH.out hl).mono ?_; rintro e w' ⟨rfl, rfl⟩) | (go_at_call 29; refine (inRange_yes _ _ _ _ hb0 hb1).mono ?_; rintro e w' ⟨rfl, rfl⟩) | (at_builtin; refine wpList_cat rfl _ _ rfl w.heap.size _ _ [] zs rfl (Own.lit0 w (Nat.le_refl _)) rfl (HH.out.alloc _) (by simp; omega) (by simp) ?_))
      intro v1 w1 hown hg
      have hb1' := below_cat ((Below.refl w.heap.size w).alloc (Nat.le_refl _) _) (Own.lit0 w (Nat.le_refl _)) (by simp) hg
      have hown' : Own w1 w.heap.size v1 zs := by simpa using hown
      obtain ⟨a1, c1, hv1, _, _, _⟩ := hown'.rd
      rw [← HN.out] at hv1
      subst hv1
      have HO := Lib.hid (show Own w1 w.heap.size (.slice a1 n c1) (tab n (drT zs e (n - n / 2))) by rw [tab_congr (fun j _ => HF.out j), ← HT.out]; exact hown')
      clear hg hown hown'
      go_wp2
      go_loopw [6] (fun i wr => ∃ k : Nat, n - n / 2 ≤ k ∧ k ≤ n ∧ i = .int .i64 k ∧ Own wr w.heap.size (.slice a1 n c1) (tab n (drT zs e k)) ∧ Below w.heap.size w wr) (fun i _ => n - (intOf i).toNat)
      case atStart => exact ⟨n - n / 2, Nat.le_refl _, by omega, by go_num, HO.out, hb1'⟩
      case round =>
        obtain ⟨k, hk0, hk, rfl, hown, hbel⟩ := hrel
        by_cases hlt : k < n
        · obtain ⟨g, rfl, hg1, _, hr⟩ := hown.cut (by omega)
          have h1 := hr.getT k hlt
          rw [drT_at] at h1
          have h2 := hr.free k
          obtain ⟨x, hx⟩ : ∃ x, x = zs.getD k 0 := ⟨_, rfl⟩
          rw [← hx] at h1
          have HX := Lib.hid hx
          clear hx hown
          by_cases hc1 : x < e
          · by_cases hc2 : -e < x
            · have HZ := Lib.hid (HY.out k hk0 (show zs.getD k 0 < e by rw [← HX.out]; exact hc1) (show -e < zs.getD k 0 by rw [← HX.out]; exact hc2))
              go_wp2
              go_roundw
              case rel => exact ⟨k + 1, by omega, by omega, by go_num, (hr.setT k _ fun j _ => HZ.out j).own, hbel.setCell (by exact hg1) _⟩
              case measure => simp [intOf]; omega
            · have HZ := Lib.hid (drT_no (show e ≤ zs.getD k 0 ∨ zs.getD k 0 ≤ -e by rw [← HX.out]; omega))
              go_wp2
              go_roundw
              case rel => exact ⟨k + 1, by omega, by omega, by go_num, (hr.to fun j _ => HZ.out j).own, hbel⟩
              case measure => simp [intOf]; omega
          · have HZ := Lib.hid (drT_no (show e ≤ zs.getD k 0 ∨ zs.getD k 0 ≤ -e by rw [← HX.out]; omega))
            go_wp2
            go_roundw
            case rel => exact ⟨k + 1, by omega, by omega, by go_num, (hr.to fun j _ => HZ.out j).own, hbel⟩
            case measure => simp [intOf]; omega
        · go_wp2
          go_ret
          have e' : k = n := by omega
          exact ret_own hown (by rw [HR.out, e']) hbel
    · have HR := Lib.hid (show resDropSmall zs e = [] by simp [resDropSmall, okDropSmall, hv, inB]; omega)
      have hb' : e < 0 ∨ 1000 < e := by omega
      clear hb
      go_enter Try.func24, Try.ntmps24
      go_wp2_with (first | (go_at_call 27; refine (validRow_any _ _ zs h hl).mono ?_; rintro e w' ⟨rfl, rfl⟩) | (go_at_call 29; refine (inRange_no _ _ _ _ hb').mono ?_; rintro e w' ⟨rfl, rfl⟩))
      go_ret
      exact ret_own (Own.nil _ _) HR.out (Below.refl _ _)
  · have hv' : vrow zs = false := by simpa using hv
    have HR := Lib.hid (show resDropSmall zs e = [] by simp [resDropSmall, okDropSmall, hv'])
    clear hv
    go_enter Try.func24, Try.ntmps24
    go_wp2_with (go_at_call 27; refine (validRow_any _ _ zs h hl).mono ?_; rintro e w' ⟨rfl, rfl⟩)
    go_ret
    exact ret_own (Own.nil _ _) HR.out (Below.refl _ _)
set_option maxHeartbeats 1000000 in
theorem implDropSmall_any (w : World) (v : Value) (zs : List Int) (h : Rd w v zs) (hl : zs.length ≤ 1048576) (e : Int) :
    Calls Try.prog 23 #[v, .int .i64 e] w fun e' w' => ∃ r, e' = .returned r ∧ Own w' w.heap.size r (resDropSmall zs e) ∧ Below w.heap.size w w' := by
  by_cases hv : vrow zs = true
  · by_cases hb : 0 ≤ e ∧ e ≤ 1000
    · obtain ⟨hb0, hb1⟩ := hb
      have HR := Lib.hid (show resDropSmall zs e = tab zs.length (drT zs e zs.length) by simp [resDropSmall, okDropSmall, hv, inB]; omega)
      have hl16 := vrow_len hv
      have HB := Lib.hid (vrow_all hv)
      have HF := Lib.hid (drT_first zs e)
      have HY := Lib.hid (show ∀ k : Nat, zs.length - zs.length / 2 ≤ k → zs.getD k 0 < e → -e < zs.getD k 0 → ∀ j : Nat, drT zs e (k + 1) j = if j = k then 0 else drT zs e k j from fun _ a b c j => drT_yes a b c j)
      have h' := h
      obtain ⟨a, cap, rfl, hlc, hm, hc⟩ := h'
      obtain ⟨n, hn⟩ : ∃ n, n = zs.length := ⟨_, rfl⟩
      rw [← hn] at hlc hl16 HR h hl HF HY ⊢
      have HH := Lib.hid h
      have HN := Lib.hid hn
      have HT := Lib.hid (show zs = tab n (fun j => zs.getD j 0) by have h0 := tab_of zs; rw [← hn] at h0; exact h0)
      clear hc hn hm h hl
      have hl : zs.length ≤ 1048576 := by rw [← HN.out]; omega
      go_enter Try.func23, Try.ntmps23
      go_wp2_with (first | (go_at_call 12; refine (implValidRow_any _ _ zs HH.out hl).mono ?_; rintro e w' ⟨rfl, rfl⟩) | (at_builtin; refine wpList_cat rfl _ _ rfl w.heap.size _ _ [] zs rfl (Own.lit0 w (Nat.le_refl _)) rfl (HH.out.alloc _) (by simp; omega) (by simp) ?_))
      intro v1 w1 hown hg
      have hb1' := below_cat ((Below.refl w.heap.size w).alloc (Nat.le_refl _) _) (Own.lit0 w (Nat.le_refl _)) (by simp) hg
      have hown' : Own w1 w.heap.size v1 zs := by simpa using hown
      obtain ⟨a1, c1, hv1, _, _, _⟩ := hown'.rd
      rw [← HN.out] at hv1
      subst hv1
      have HO := Lib.hid (show Own w1 w.heap.size (.slice a1 n c1) (tab n (drT zs e (n - n / 2))) by rw [tab_congr (fun j _ => HF.out j), ← HT.out]; exact hown')
      clear hg hown hown'
      go_wp2
      go_loopw [6] (fun i wr => ∃ k : Nat, n - n / 2 ≤ k ∧ k ≤ n ∧ i = .int .i64 k ∧ Own wr w.heap.size (.slice a1 n c1) (tab n (drT zs e k)) ∧ Below w.heap.size w wr) (fun i _ => n - (intOf i).toNat)
      case atStart => exact ⟨n - n / 2, Nat.le_refl _, by omega, by go_num, HO.out, hb1'⟩
      case round =>
        obtain ⟨k, hk0, hk, rfl, hown, hbel⟩ := hrel
        by_cases hlt : k < n
        · obtain ⟨g, rfl, hg1, _, hr⟩ := hown.cut (by omega)
          have h1 := hr.getT k hlt
          rw [drT_at] at h1
          have h2 := hr.free k
          obtain ⟨x, hx⟩ : ∃ x, x = zs.getD k 0 := ⟨_, rfl⟩
          rw [← hx] at h1
          have HX := Lib.hid hx
          clear hx hown
          by_cases hc1 : x < e
          · by_cases hc2 : -e < x
            · have HZ := Lib.hid (HY.out k hk0 (show zs.getD k 0 < e by rw [← HX.out]; exact hc1) (show -e < zs.getD k 0 by rw [← HX.out]; exact hc2))
              go_wp2
              go_roundw
              case rel => exact ⟨k + 1, by omega, by omega, by go_num, (hr.setT k _ fun j _ => HZ.out j).own, hbel.setCell (by exact hg1) _⟩
              case measure => simp [intOf]; omega
            · have HZ := Lib.hid (drT_no (show e ≤ zs.getD k 0 ∨ zs.getD k 0 ≤ -e by rw [← HX.out]; omega))
              go_wp2
              go_roundw
              case rel => exact ⟨k + 1, by omega, by omega, by go_num, (hr.to fun j _ => HZ.out j).own, hbel⟩
              case measure => simp [intOf]; omega
          · have HZ := Lib.hid (drT_no (show e ≤ zs.getD k 0 ∨ zs.getD k 0 ≤ -e by rw [← HX.out]; omega))
            go_wp2
            go_roundw
            case rel => exact ⟨k + 1, by omega, by omega, by go_num, (hr.to fun j _ => HZ.out j).own, hbel⟩
            case measure => simp [intOf]; omega
        · go_wp2
          go_ret
          have e' : k = n := by omega
          exact ret_own hown (by rw [HR.out, e']) hbel
    · have HR := Lib.hid (show resDropSmall zs e = [] by simp [resDropSmall, okDropSmall, hv, inB]; omega)
      by_cases hb0 : e < 0
      · clear hb
        go_enter Try.func23, Try.ntmps23
        go_wp2_with (go_at_call 12; refine (implValidRow_any _ _ zs h hl).mono ?_; rintro e w' ⟨rfl, rfl⟩)
        go_ret
        exact ret_own (Own.nil _ _) HR.out (Below.refl _ _)
      · have hb1 : 1000 < e := by omega
        clear hb
        go_enter Try.func23, Try.ntmps23
        go_wp2_with (go_at_call 12; refine (implValidRow_any _ _ zs h hl).mono ?_; rintro e w' ⟨rfl, rfl⟩)
        go_ret
        exact ret_own (Own.nil _ _) HR.out (Below.refl _ _)
  · have hv' : vrow zs = false := by simpa using hv
    have HR := Lib.hid (show resDropSmall zs e = [] by simp [resDropSmall, okDropSmall, hv'])
    clear hv
    go_enter Try.func23, Try.ntmps23
    go_wp2_with (go_at_call 12; refine (implValidRow_any _ _ zs h hl).mono ?_; rintro e w' ⟨rfl, rfl⟩)
    go_ret
    exact ret_own (Own.nil _ _) HR.out (Below.refl _ _)
end Go.Proofs.Ytnjnniaiajejeaa
