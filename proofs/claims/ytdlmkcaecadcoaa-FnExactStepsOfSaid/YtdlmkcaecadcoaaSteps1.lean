/- StepsOf: the reference and the program return each number less the one ahead of it. Conditions: at most 1048576 numbers. -/
import Derived.Test.YtdlmkcaecadcoaaDiff1
namespace Go.Proofs.Ytdlmkcaecadcoaa
open Go.RowKit
/-- The first k steps. -/
def stTo (zs : List Int) : Nat → List Int
  | 0 => []
  | k + 1 => zs.take 1 ++ difTo zs k
theorem stTo_len (zs : List Int) (k : Nat) (h : k ≤ zs.length) : (stTo zs k).length = k := by
  cases k with
  | zero => rfl
  | succ k => simp [stTo, difTo_len]; omega
theorem stTo_all (zs : List Int) (h : 0 < zs.length) : stTo zs zs.length = [zs.getD 0 0] ++ dif zs := by
  cases zs with
  | nil => simp at h
  | cons x t => simp [stTo, dif]
def resStepsOf (zs : List Int) : List Int := if vrow zs = true then stTo zs zs.length else []
theorem resStepsOf_len (zs : List Int) : (resStepsOf zs).length ≤ 1048576 := by
  unfold resStepsOf
  split
  · rename_i h; rw [stTo_len _ _ (Nat.le_refl _)]; have := vrow_len h; omega
  · simp
set_option maxHeartbeats 800000 in
theorem steps_any (w : World) (v : Value) (zs : List Int) (h : Rd w v zs) (hv : vrow zs = true) :
    Calls Try.prog 45 #[v] w fun e w' => ∃ r, e = .returned r ∧ Own w' w.heap.size r (stTo zs zs.length) ∧ Below w.heap.size w w' := by
  have hl := vrow_len hv
  have HB := Lib.hid (vrow_all hv)
  obtain ⟨a, cap, rfl, hlc, hm, hc⟩ := h
  obtain ⟨n, hn⟩ : ∃ n, n = zs.length := ⟨_, rfl⟩
  rw [← hn] at hlc hl ⊢
  have HN := Lib.hid hn
  have HC := Lib.hid hc
  clear hc hn hm hv
  go_enter Try.func45, Try.ntmps45
  go_wp2
  go_loopw [3, 4] (fun u i wr => ∃ k : Nat, k ≤ n ∧ i = .int .i64 k ∧ Own wr w.heap.size u (stTo zs k) ∧ Below w.heap.size w wr) (fun _ i _ => n - (intOf i).toNat)
  case atStart => exact ⟨0, Nat.zero_le _, rfl, Own.lit0 w (Nat.le_refl _), (Below.refl _ _).alloc (Nat.le_refl _) _⟩
  case round =>
    obtain ⟨k, hk, rfl, hown, hbel⟩ := hrel
    by_cases hlt : k < n
    · obtain ⟨b, o, rfl, hcell⟩ := HC.out.resolve_left (by intro h0; have := HN.out; rw [h0] at this; simp at this; omega)
      have hbl := World.block_lt_of_cell? w _ (hcell k (by rw [← HN.out]; omega))
      have hz := hbel.size
      cases k with
      | zero =>
        have h1 : wr.cell? ⟨b, o, none⟩ = some (.int .i64 (zs.getD 0 0)) := (hbel.cell hbl).trans (hcell 0 (by rw [← HN.out]; omega))
        have HX := Lib.hid (show stTo zs 1 = [] ++ [zs.getD 0 0] by
          have h0 := HN.out
          cases zs with
          | nil => simp at h0; omega
          | cons x t => simp [stTo, difTo])
        clear hcell HC
        obtain ⟨x, hx⟩ : ∃ x, x = zs.getD 0 0 := ⟨_, rfl⟩
        rw [← hx] at h1 HX
        clear hx
        go_wp2_with (at_builtin; refine wpList_app rfl _ _ rfl w.heap.size u3 [] x rfl hown rfl (by simp) (by omega) ?_)
        intro v' w1 hown' hg
        have hbel' := below_app hbel hown hz hg
        clear hg hown hbel
        go_wp2
        go_roundw
        case rel => exact ⟨1, by omega, by go_num, by rw [HX.out]; exact hown', hbel'⟩
        case measure => simp [intOf]; omega
      | succ k =>
        have h1 : wr.cell? ⟨b, o + k, none⟩ = some (.int .i64 (zs.getD k 0)) := (hbel.cell (p := ⟨b, o + k, none⟩) hbl).trans (hcell k (by rw [← HN.out]; omega))
        have h2 : wr.cell? ⟨b, o + (k + 1), none⟩ = some (.int .i64 (zs.getD (k + 1) 0)) := (hbel.cell (p := ⟨b, o + (k + 1), none⟩) hbl).trans (hcell (k + 1) (by rw [← HN.out]; omega))
        clear hcell HC
        have hb1 := HB.out k
        have hb2 := HB.out (k + 1)
        have HL := Lib.hid (stTo_len zs (k + 1) (by rw [← HN.out]; exact hk))
        obtain ⟨x, hx⟩ : ∃ x, x = zs.getD k 0 := ⟨_, rfl⟩
        obtain ⟨y, hy⟩ : ∃ y, y = zs.getD (k + 1) 0 := ⟨_, rfl⟩
        rw [← hx] at h1 hb1
        rw [← hy] at h2 hb2
        have HX := Lib.hid (show stTo zs (k + 1 + 1) = stTo zs (k + 1) ++ [y - x] by rw [hx, hy]; simp [stTo, difTo])
        clear hx hy
        have s0 : (0 : Int) ≤ (k : Int) := by omega
        have s1 : (k : Int) < (n : Int) := by omega
        have s2 : (k : Int) + 1 < (n : Int) := by omega
        have s3 : ((k : Int) + 1).toNat = k + 1 := by omega
        have s4 : (0 : Int) ≤ (k : Int) + 1 := by omega
        have s5 : IntKind.i64.wrap (k : Int) = (k : Int) := IntWalk.i64_in _ (by omega)
        have s6 : IntKind.i64.wrap (y - x) = y - x := IntWalk.i64_in _ (by omega)
        have s7 : ((k : Int) + 1 == 0) = false := by simp; omega
        have hlen : (stTo zs (k + 1)).length ≤ 1048576 := by rw [HL.out]; omega
        rw [show ((k + 1 : Nat) : Int) = (k : Int) + 1 from rfl]
        go_wp2
        go_region_held3 (fun w' => w'.cell? ⟨b, o + k, none⟩ = some (.int .i64 x) ∧ w'.cell? ⟨b, o + (k + 1), none⟩ = some (.int .i64 y)) (first | go_keep | (go_split_ands; exact ⟨(cell_app hg (hown.alloc' _).drew hbl (by simp; omega)).trans (by assumption), (cell_app hg (hown.alloc' _).drew hbl (by simp; omega)).trans (by assumption)⟩)) ((refine step_app (by rfl) _ _ (by rfl) w.heap.size wr.heap.size u3 (stTo zs (k + 1)) (y - x) (by rfl) ((hown.alloc' _).drew) (by rfl) (by simp) hlen (by simp; omega) ?_; intro v' w1 hown' hg))
        have hbel' := below_app' hbel hown hz hg
        clear hg hown hbel s3 s5 s6 hlen h1 h2
        go_wp2
        go_roundw
        case rel => exact ⟨k + 1 + 1, by omega, by go_num, by rw [HX.out]; exact hown', hbel'⟩
        case measure => simp [intOf]; omega
    · go_wp2
      go_ret
      have e : k = n := by omega
      subst e
      exact ret_own hown rfl hbel
set_option maxHeartbeats 400000 in
theorem specStepsOf_any (w : World) (v : Value) (zs : List Int) (h : Rd w v zs) (hl : zs.length ≤ 1048576) :
    Calls Try.prog 23 #[v] w fun e w' => ∃ r, e = .returned r ∧ Own w' w.heap.size r (resStepsOf zs) ∧ Below w.heap.size w w' := by
  by_cases hv : vrow zs = true
  · have HR := Lib.hid (show resStepsOf zs = _ by rw [resStepsOf, if_pos hv])
    go_enter Try.func23, Try.ntmps23
    go_wp2_with (first | (go_at_call 43; refine (validRow_any _ _ zs h hl).mono ?_; rintro e w' ⟨rfl, rfl⟩) | (go_at_call 45; refine (steps_any _ _ zs h hv).mono ?_; rintro e w' ⟨r, rfl, hr, hb⟩))
    go_ret
    exact ret_own hr HR.out hb
  · have hv' : vrow zs = false := by simpa using hv
    have HR := Lib.hid (show resStepsOf zs = [] by rw [resStepsOf, if_neg hv])
    clear hv
    go_enter Try.func23, Try.ntmps23
    go_wp2_with (go_at_call 43; refine (validRow_any _ _ zs h hl).mono ?_; rintro e w' ⟨rfl, rfl⟩)
    go_ret
    exact ret_own (Own.nil _ _) HR.out (Below.refl _ _)
set_option maxHeartbeats 800000 in
theorem implStepsOf_any (w : World) (v : Value) (zs : List Int) (h : Rd w v zs) (hl : zs.length ≤ 1048576) :
    Calls Try.prog 24 #[v] w fun e w' => ∃ r, e = .returned r ∧ Own w' w.heap.size r (resStepsOf zs) ∧ Below w.heap.size w w' := by
  by_cases hv : vrow zs = true
  · have HR := Lib.hid (show resStepsOf zs = _ by rw [resStepsOf, if_pos hv])
    have hl16 := vrow_len hv
    have HB := Lib.hid (vrow_all hv)
    have h' := h
    obtain ⟨a, cap, rfl, hlc, hm, hc⟩ := h'
    obtain ⟨n, hn⟩ : ∃ n, n = zs.length := ⟨_, rfl⟩
    rw [← hn] at hlc hl16 HR h hl ⊢
    have HH := Lib.hid h
    have HN := Lib.hid hn
    have HC := Lib.hid hc
    have HV := Lib.hid hv
    clear hc hn hm h hl
    have hl : zs.length ≤ 1048576 := by rw [← HN.out]; omega
    have HW := Lib.hid (within_row HV.out)
    by_cases hz : n = 0
    · subst hz
      have hz : zs = [] := List.eq_nil_of_length_eq_zero HN.out.symm
      have HR' := Lib.hid (show resStepsOf zs = [] by rw [HR.out]; rfl)
      clear HR HC hz
      go_enter Try.func24, Try.ntmps24
      go_wp2_with (go_at_call 17; refine (implValidRow_any _ _ zs HH.out hl).mono ?_; rintro e w' ⟨rfl, rfl⟩)
      go_ret
      exact ret_own (Own.lit0 w (Nat.le_refl _)) HR'.out ((Below.refl _ _).alloc (Nat.le_refl _) _)
    · obtain ⟨b, o, rfl, hcell⟩ := HC.out.resolve_left (by intro h0; have := HN.out; rw [h0] at this; simp at this; omega)
      have hbl := World.block_lt_of_cell? w _ (hcell 0 (by rw [← HN.out]; omega))
      have h1 : w.cell? ⟨b, o, none⟩ = some (.int .i64 (zs.getD 0 0)) := hcell 0 (by rw [← HN.out]; omega)
      have HR' := Lib.hid (show resStepsOf zs = [zs.getD 0 0] ++ dif zs by rw [HR.out, HN.out]; exact stTo_all zs (by rw [← HN.out]; omega))
      have hlen : ([zs.getD 0 0] : List Int).length + (dif zs).length ≤ 1048576 := by rw [dif_len, ← HN.out]; simp; omega
      have s0 : ((n : Int) == 0) = false := by simp; omega
      have s1 : 0 < n := by omega
      clear HR HC hcell
      obtain ⟨x, hx⟩ : ∃ x, x = zs.getD 0 0 := ⟨_, rfl⟩
      rw [← hx] at h1 HR' hlen
      have HLEN := Lib.hid hlen
      clear hx hlen
      go_enter Try.func24, Try.ntmps24
      go_wp2_with (go_at_call 17; refine (implValidRow_any _ _ zs HH.out hl).mono ?_; rintro e w' ⟨rfl, rfl⟩)
      go_region_held3 (fun w' => w'.cell? ⟨b, o, none⟩ = some (.int .i64 x)) (first | go_keep | exact (hb.cell (p := ⟨b, o, none⟩) (by simp; omega)).trans (by assumption) | exact (cell_app hg hown1 hbl hsz1).trans (by assumption))
        ((first
          | (go_at_call 46; refine (differences_any _ _ zs (by first | exact HH.out | exact HH.out.alloc _) (by rw [← HN.out]; exact hl16) 1000 (by omega) (by omega) HW.out).mono ?_; rintro e w1 ⟨r, rfl, hr, hb⟩)
          | (have hown1 : Own w1 w.heap.size (.slice (some ⟨w.heap.size, 0, none⟩) 1 1) [x] := (Own.lit1 w (Nat.le_refl _) x).drew.keep (Below.grownBy hb); have hsz1 : w.heap.size ≤ w1.heap.size := (by have := hb.size; simp at this; omega); have hbel1 : Below w.heap.size w w1 := ((Below.refl w.heap.size w).alloc (Nat.le_refl _) _).drew.trans (hb.mono (by simp)); refine step_cat (by rfl) _ _ (by rfl) w.heap.size _ r [x] (dif zs) (by rfl) hown1 (by rfl) hr.rd HLEN.out hsz1 ?_; intro v' w2 hown2 hg; have hfin := below_cat hbel1 hown1 hsz1 hg)
          | (have hown1 : Own (w1.alloc (.cells #[.int .i64 x] 3)) w.heap.size (.slice (some ⟨w1.heap.size, 0, none⟩) 1 1) [x] := Own.lit1 w1 hb.size x; have hsz1 : w.heap.size ≤ (w1.alloc (.cells #[.int .i64 x] 3)).heap.size := (by have := hb.size; simp at this; simp; omega); have hbel1 : Below w.heap.size w (w1.alloc (.cells #[.int .i64 x] 3)) := ((Below.refl w.heap.size w).drew.trans (hb.mono (by simp))).alloc hb.size _; refine step_cat (by rfl) _ _ (by rfl) w.heap.size _ r [x] (dif zs) (by rfl) hown1 (by rfl) (hr.rd.alloc _) HLEN.out hsz1 ?_; intro v' w2 hown2 hg; have hfin := below_cat hbel1 hown1 hsz1 hg)))
      all_goals (go_wp2; go_ret; exact ret_own hown2 HR'.out hfin)
  · have hv' : vrow zs = false := by simpa using hv
    have HR := Lib.hid (show resStepsOf zs = [] by rw [resStepsOf, if_neg hv])
    clear hv
    go_enter Try.func24, Try.ntmps24
    go_wp2_with (go_at_call 17; refine (implValidRow_any _ _ zs h hl).mono ?_; rintro e w' ⟨rfl, rfl⟩)
    go_ret
    exact ret_own (Own.nil _ _) HR.out (Below.refl _ _)
end Go.Proofs.Ytdlmkcaecadcoaa
