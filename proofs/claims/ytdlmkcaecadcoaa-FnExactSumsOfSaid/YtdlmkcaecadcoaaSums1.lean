/- SumsOf: the reference and the program return the sums of the first numbers. Conditions: at most 1048576 numbers. -/
import Derived.Test.YtdlmkcaecadcoaaRow1
import Derived.Test.YtdlmkcaecadcoaaMem
namespace Go.Proofs.Ytdlmkcaecadcoaa
open Go.RowKit
/-- The sum of the first k numbers. -/
def psum (zs : List Int) : Nat → Int
  | 0 => 0
  | k + 1 => psum zs k + zs.getD k 0
/-- The first k sums. -/
def sumsTo (zs : List Int) : Nat → List Int
  | 0 => []
  | k + 1 => sumsTo zs k ++ [psum zs (k + 1)]
theorem sumsTo_len (zs : List Int) (k : Nat) : (sumsTo zs k).length = k := by
  induction k with
  | zero => rfl
  | succ k ih => simp [sumsTo, ih]
theorem psum_bd {zs : List Int} (h : ∀ j, -1000 ≤ zs.getD j 0 ∧ zs.getD j 0 ≤ 1000) (k : Nat) : -(1000 * (k : Int)) ≤ psum zs k ∧ psum zs k ≤ 1000 * k := by
  induction k with
  | zero => simp [psum]
  | succ k ih => have := h k; simp only [psum]; omega
def resSumsOf (zs : List Int) : List Int := if vrow zs = true then sumsTo zs zs.length else []
theorem resSumsOf_len (zs : List Int) : (resSumsOf zs).length ≤ 1048576 := by
  unfold resSumsOf
  split
  · rename_i h; rw [sumsTo_len]; have := vrow_len h; omega
  · simp
set_option maxHeartbeats 800000 in
theorem sums_any (w : World) (v : Value) (zs : List Int) (h : Rd w v zs) (hv : vrow zs = true) :
    Calls Try.prog 44 #[v] w fun e w' => ∃ r, e = .returned r ∧ Own w' w.heap.size r (sumsTo zs zs.length) ∧ Below w.heap.size w w' := by
  have hl := vrow_len hv
  have HB := Lib.hid (vrow_all hv)
  obtain ⟨a, cap, rfl, hlc, hm, hc⟩ := h
  obtain ⟨n, hn⟩ : ∃ n, n = zs.length := ⟨_, rfl⟩
  rw [← hn] at hlc hl ⊢
  have HN := Lib.hid hn
  have HC := Lib.hid hc
  clear hc hn hm hv
  go_enter Try.func44, Try.ntmps44
  go_wp2
  go_loopw [3, 4, 5] (fun u s i wr => ∃ k : Nat, k ≤ n ∧ i = .int .i64 k ∧ s = .int .i64 (psum zs k) ∧ Own wr w.heap.size u (sumsTo zs k) ∧ Below w.heap.size w wr) (fun _ _ i _ => n - (intOf i).toNat)
  case atStart => exact ⟨0, Nat.zero_le _, rfl, rfl, Own.lit0 w (Nat.le_refl _), (Below.refl _ _).alloc (Nat.le_refl _) _⟩
  case round =>
    obtain ⟨k, hk, rfl, rfl, hown, hbel⟩ := hrel
    by_cases hlt : k < n
    · obtain ⟨b, o, rfl, hcell⟩ := HC.out.resolve_left (by intro h0; have := HN.out; rw [h0] at this; simp at this; omega)
      have h1 : wr.cell? ⟨b, o + k, none⟩ = some (.int .i64 (zs.getD k 0)) := (hbel.cell (World.block_lt_of_cell? w _ (hcell k (by rw [← HN.out]; exact hlt)))).trans (hcell k (by rw [← HN.out]; exact hlt))
      clear hcell HC
      have hb := HB.out k
      have hp := psum_bd HB.out k
      have hz := hbel.size
      have hL := sumsTo_len zs k
      have HL := Lib.hid hL
      clear hL
      obtain ⟨x, hx⟩ : ∃ x, x = zs.getD k 0 := ⟨_, rfl⟩
      rw [← hx] at h1 hb
      have HX := Lib.hid (show psum zs (k + 1) = psum zs k + x by rw [hx]; rfl)
      clear hx
      go_wp2_with (at_builtin; refine wpList_app rfl _ _ rfl w.heap.size u3 (sumsTo zs k) (psum zs k + x) rfl hown rfl (by rw [HL.out]; omega) (by omega) ?_)
      intro v' w1 hown' hg
      have hbel' := below_app hbel hown hz hg
      clear hg hown hbel
      go_wp2
      go_roundw
      case rel => exact ⟨k + 1, by omega, by go_num, by rw [HX.out], by unfold sumsTo; rw [HX.out]; exact hown', hbel'⟩
      case measure => simp [intOf]; omega
    · go_wp2
      go_ret
      have e : k = n := by omega
      subst e
      exact ret_own hown rfl hbel
set_option maxHeartbeats 400000 in
theorem specSumsOf_any (w : World) (v : Value) (zs : List Int) (h : Rd w v zs) (hl : zs.length ≤ 1048576) :
    Calls Try.prog 19 #[v] w fun e w' => ∃ r, e = .returned r ∧ Own w' w.heap.size r (resSumsOf zs) ∧ Below w.heap.size w w' := by
  by_cases hv : vrow zs = true
  · have HR := Lib.hid (show resSumsOf zs = _ by rw [resSumsOf, if_pos hv])
    go_enter Try.func19, Try.ntmps19
    go_wp2_with (first | (go_at_call 43; refine (validRow_any _ _ zs h hl).mono ?_; rintro e w' ⟨rfl, rfl⟩) | (go_at_call 44; refine (sums_any _ _ zs h hv).mono ?_; rintro e w' ⟨r, rfl, hr, hb⟩))
    go_ret
    exact ret_own hr HR.out hb
  · have hv' : vrow zs = false := by simpa using hv
    have HR := Lib.hid (show resSumsOf zs = [] by rw [resSumsOf, if_neg hv])
    clear hv
    go_enter Try.func19, Try.ntmps19
    go_wp2_with (go_at_call 43; refine (validRow_any _ _ zs h hl).mono ?_; rintro e w' ⟨rfl, rfl⟩)
    go_ret
    exact ret_own (Own.nil _ _) HR.out (Below.refl _ _)
set_option maxHeartbeats 800000 in
theorem implSumsOf_any (w : World) (v : Value) (zs : List Int) (h : Rd w v zs) (hl : zs.length ≤ 1048576) :
    Calls Try.prog 20 #[v] w fun e w' => ∃ r, e = .returned r ∧ Own w' w.heap.size r (resSumsOf zs) ∧ Below w.heap.size w w' := by
  by_cases hv : vrow zs = true
  · have HR := Lib.hid (show resSumsOf zs = _ by rw [resSumsOf, if_pos hv])
    have hl16 := vrow_len hv
    have HB := Lib.hid (vrow_all hv)
    have h' := h
    obtain ⟨a, cap, rfl, hlc, hm, hc⟩ := h'
    obtain ⟨n, hn⟩ : ∃ n, n = zs.length := ⟨_, rfl⟩
    rw [← hn] at hlc hl16 HR h hl ⊢
    have HH := Lib.hid h
    have HN := Lib.hid hn
    have HC := Lib.hid hc
    have HV := Lib.hid hv
    clear hc hn hm h hl
    have hl : zs.length ≤ 1048576 := by rw [← HN.out]; omega
    go_enter Try.func20, Try.ntmps20
    go_wp2_with (go_at_call 17; refine (implValidRow_any _ _ zs HH.out hl).mono ?_; rintro e w' ⟨rfl, rfl⟩)
    go_loopw [3, 4, 6, 13] (fun u s _ i wr => ∃ k : Nat, k ≤ n ∧ i = .int .i64 k ∧ s = .int .i64 (psum zs k) ∧ Own wr w.heap.size u (sumsTo zs k) ∧ Below w.heap.size w wr) (fun _ _ _ i _ => n - (intOf i).toNat)
    case atStart => exact ⟨0, Nat.zero_le _, rfl, rfl, Own.lit0 w (Nat.le_refl _), (Below.refl _ _).alloc (Nat.le_refl _) _⟩
    case round =>
      obtain ⟨k, hk, rfl, rfl, hown, hbel⟩ := hrel
      by_cases hlt : k < n
      · obtain ⟨b, o, rfl, hcell⟩ := HC.out.resolve_left (by intro h0; have := HN.out; rw [h0] at this; simp at this; omega)
        have h1 : wr.cell? ⟨b, o + k, none⟩ = some (.int .i64 (zs.getD k 0)) := (hbel.cell (World.block_lt_of_cell? w _ (hcell k (by rw [← HN.out]; exact hlt)))).trans (hcell k (by rw [← HN.out]; exact hlt))
        clear hcell HC
        have hb := HB.out k
        have hp := psum_bd HB.out k
        have hz := hbel.size
        have HL := Lib.hid (sumsTo_len zs k)
        obtain ⟨x, hx⟩ : ∃ x, x = zs.getD k 0 := ⟨_, rfl⟩
        rw [← hx] at h1 hb
        have HX := Lib.hid (show psum zs (k + 1) = psum zs k + x by rw [hx]; rfl)
        clear hx
        go_wp2_with (at_builtin; refine wpList_app rfl _ _ rfl w.heap.size u3 (sumsTo zs k) (psum zs k + x) rfl hown rfl (by rw [HL.out]; omega) (by omega) ?_)
        intro v' w1 hown' hg
        have hbel' := below_app hbel hown hz hg
        clear hg hown hbel
        go_wp2
        go_roundw
        case rel => exact ⟨k + 1, by omega, by go_num, by rw [HX.out], by unfold sumsTo; rw [HX.out]; exact hown', hbel'⟩
        case measure => simp [intOf]; omega
      · go_wp2
        go_ret
        have e : k = n := by omega
        subst e
        exact ret_own hown HR.out hbel
  · have hv' : vrow zs = false := by simpa using hv
    have HR := Lib.hid (show resSumsOf zs = [] by rw [resSumsOf, if_neg hv])
    clear hv
    go_enter Try.func20, Try.ntmps20
    go_wp2_with (go_at_call 17; refine (implValidRow_any _ _ zs h hl).mono ?_; rintro e w' ⟨rfl, rfl⟩)
    go_ret
    exact ret_own (Own.nil _ _) HR.out (Below.refl _ _)
end Go.Proofs.Ytdlmkcaecadcoaa
