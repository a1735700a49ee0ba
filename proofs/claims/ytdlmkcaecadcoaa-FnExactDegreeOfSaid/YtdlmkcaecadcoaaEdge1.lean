/- EdgeOf: the reference and the program return the first numbers of the rows of differences. Conditions: at most 1048576 numbers. -/
import Derived.Test.YtdlmkcaecadcoaaDiff1
namespace Go.Proofs.Ytdlmkcaecadcoaa
open Go.RowKit
/-- The k-th row of differences. -/
def difN (zs : List Int) : Nat → List Int
  | 0 => zs
  | k + 1 => dif (difN zs k)
/-- The first k numbers of the edge. -/
def edgeTo (zs : List Int) : Nat → List Int
  | 0 => []
  | k + 1 => edgeTo zs k ++ [(difN zs k).getD 0 0]
theorem edgeTo_len (zs : List Int) (k : Nat) : (edgeTo zs k).length = k := by
  induction k with
  | zero => rfl
  | succ k ih => simp [edgeTo, ih]
theorem difN_len (zs : List Int) (k : Nat) : (difN zs k).length = zs.length - k := by
  induction k with
  | zero => rfl
  | succ k ih => simp only [difN, dif_len, ih]; omega
theorem within_difN {zs : List Int} (h : within 1000 zs) (k : Nat) : within (1000 * 2 ^ k) (difN zs k) := by
  induction k with
  | zero => simpa [difN] using h
  | succ k ih =>
    have h0 : (0 : Int) ≤ 1000 * 2 ^ k := Int.mul_nonneg (by omega) (Int.le_of_lt (Int.pow_pos (by omega)))
    have := within_dif h0 ih
    rw [show (1000 : Int) * 2 ^ (k + 1) = 2 * (1000 * 2 ^ k) by rw [Int.pow_succ]; omega]
    exact this
theorem within_mono {M M' : Int} {zs : List Int} (h : within M zs) (hM : M ≤ M') : within M' zs := fun j => by have := h j; omega
theorem pow16 {k : Nat} (h : k ≤ 16) : (1000 : Int) * 2 ^ k ≤ 65536000 := by
  have h1 : (2 : Nat) ^ k ≤ 2 ^ 16 := Nat.pow_le_pow_right (by omega) h
  have h2 : ((2 : Int) ^ k) = ((2 ^ k : Nat) : Int) := by simp
  rw [h2]; omega
/-- The k-th row of differences has numbers of at most 65536000. -/
theorem within_difN' {zs : List Int} (h : within 1000 zs) {k : Nat} (hk : k ≤ 16) : within 65536000 (difN zs k) := within_mono (within_difN h k) (pow16 hk)
def resEdgeOf (zs : List Int) : List Int := if vrow zs = true then edgeTo zs zs.length else []
theorem resEdgeOf_len (zs : List Int) : (resEdgeOf zs).length ≤ 1048576 := by
  unfold resEdgeOf
  split
  · rename_i h; rw [edgeTo_len]; have := vrow_len h; omega
  · simp
/-- The length of a slice. -/
def lenOf : Value → Nat | .slice _ n _ => n | _ => 0
theorem Rd.lenOf {w : World} {v : Value} {zs : List Int} (h : Rd w v zs) : lenOf v = zs.length := by
  obtain ⟨_, _, rfl, _⟩ := h; rfl
/-- A slice that does not lie in the other one's block. -/
def Far (v u : Value) : Prop := ∀ b o n c, v = .slice (some ⟨b, o, none⟩) n c → u.ownBlock ≠ some b
theorem Rd.kept {w w' : World} {v u : Value} {zs : List Int} (h : Rd w v zs) (hg : w.grownBy w' u.ownBlock) (hf : Far v u) : Rd w' v zs := by
  obtain ⟨a, c, e, h1, h2, h3⟩ := h
  refine ⟨a, c, e, h1, h2, h3.imp id ?_⟩
  rintro ⟨b, o, ha, hc⟩
  subst ha
  refine ⟨b, o, rfl, fun i hi => ?_⟩
  have hb : b < w.heap.size := World.block_lt_of_cell? w _ (hc i hi)
  rw [← hc i hi]
  exact World.cell?_of_block (w := w) (hg.block b hb (fun e' => hf b o _ _ e e'.symm))
/-- What was made later lies elsewhere. -/
theorem Own.far {w w' : World} {lo lo' : Nat} {v u : Value} {zs ys : List Int} (h : Own w lo v zs) (hu : Own w' lo' u ys) (hl : w'.heap.size ≤ lo) : Far v u := by
  intro b o n c e he
  subst e
  rcases h.2 with ⟨h2, _⟩ | ⟨g, cap, cur, hv, hb, _⟩
  · simp at h2
  · simp only [Value.slice.injEq, Option.some.injEq, Addr.mk.injEq] at hv
    have := (World.ownsRow.lt hu b he).2
    omega
theorem Rd.far {w : World} {v u : Value} {zs : List Int} (h : Rd w v zs) (hz : zs ≠ []) (hu : ∀ b, u.ownBlock = some b → w.heap.size ≤ b) : Far v u := by
  intro b o n c e he
  subst e
  obtain ⟨a, c', e', h1, h2, h3⟩ := h
  simp only [Value.slice.injEq] at e'
  rcases h3 with h3 | ⟨b', o', ha, hc⟩
  · exact hz h3
  · rw [ha] at e'
    simp only [Option.some.injEq, Addr.mk.injEq] at e'
    have hb : b' < w.heap.size := World.block_lt_of_cell? w _ (hc 0 (by cases zs with | nil => exact absurd rfl hz | cons => simp))
    have := hu b he
    omega
theorem Far.lit {v : Value} {lo g n c : Nat} {w : World} {zs : List Int} (h : Own w lo v zs) (hg : g < lo) : Far v (.slice (some ⟨g, 0, none⟩) n c) := by
  intro b o n' c' e he
  subst e
  rcases h.2 with ⟨h2, _⟩ | ⟨g', cap, cur, hv, hb, _⟩
  · simp at h2
  · simp only [Value.slice.injEq, Option.some.injEq, Addr.mk.injEq] at hv
    simp [Value.ownBlock] at he
    omega
set_option maxHeartbeats 200000 in
theorem implEdge_yes (w : World) (v : Value) (zs : List Int) (h : Rd w v zs) (hv : vrow zs = true) :
    Calls Try.prog 26 #[v] w fun e w' => ∃ r, e = .returned r ∧ Own w' w.heap.size r (edgeTo zs zs.length) ∧ Below w.heap.size w w' := by
  have HV := Lib.hid hv
  have hl := vrow_len hv
  have hl' : zs.length ≤ 1048576 := by omega
  have HW := Lib.hid (within_row hv)
  have HF := Lib.hid (show zs ≠ [] → Far v (.slice (some ⟨w.heap.size, 0, none⟩) 0 0) from fun hz => h.far hz (fun b hb => by simp [Value.ownBlock] at hb; omega))
  have HH := Lib.hid h
  obtain ⟨a, cap, rfl, hlc, hm, hc⟩ := h
  obtain ⟨n, hn⟩ : ∃ n, n = zs.length := ⟨_, rfl⟩
  rw [← hn] at hl HH HF ⊢
  have HN := Lib.hid hn
  clear hc hn hm hv hlc
  go_enter Try.func26, Try.ntmps26
  go_wp2_with (go_at_call 17; refine (implValidRow_any _ _ zs HH.out hl').mono ?_; rintro e w' ⟨rfl, hww⟩; have e2 := HV.out; rw [e2]; subst hww; clear e2)
  go_loopw [0, 3] (fun u0 u wr => ∃ k : Nat, k ≤ n ∧ Rd wr u0 (difN zs k) ∧ (k < n → Far u0 u) ∧ Own wr w.heap.size u (edgeTo zs k) ∧ Below w.heap.size w wr) (fun u0 _ _ => lenOf u0)
  case atStart => exact ⟨0, Nat.zero_le _, HH.out.alloc _, fun hz => HF.out (by rintro rfl; have := HN.out; simp at this; omega), Own.lit0 w (Nat.le_refl _), (Below.refl _ _).alloc (Nat.le_refl _) _⟩
  case round =>
    obtain ⟨k, hk, hrd, hfar, hown, hbel⟩ := hrel
    have hz := hbel.size
    have hL := (difN_len zs k).trans (show zs.length - k = n - k by rw [← HN.out])
    have HR := Lib.hid hrd
    obtain ⟨a1, c1, rfl, hq1, hq2, hq3⟩ := hrd
    by_cases hlt : k < n
    · obtain ⟨b, o, rfl, hcell⟩ := hq3.resolve_left (by intro h0; rw [h0] at hL; simp at hL; omega)
      have HF' := Lib.hid (hfar hlt)
      have h1 : wr.cell? ⟨b, o, none⟩ = some (.int .i64 ((difN zs k).getD 0 0)) := hcell 0 (by omega)
      have HX := Lib.hid (show edgeTo zs (k + 1) = edgeTo zs k ++ [(difN zs k).getD 0 0] from rfl)
      have HE := Lib.hid (edgeTo_len zs k)
      obtain ⟨x, hx⟩ : ∃ x, x = (difN zs k).getD 0 0 := ⟨_, rfl⟩
      rw [← hx] at h1 HX
      obtain ⟨m, hm⟩ : ∃ m, m = (difN zs k).length := ⟨_, rfl⟩
      rw [← hm] at hL HR HF' hq1 ⊢
      have h0 : 0 < m := by omega
      have hm1 : k + m ≤ n := by omega
      have hm2 : n ≤ k + m := by omega
      have HM := Lib.hid hm
      clear hcell hq3 hfar hx hm hq2 hL
      go_wp2_with (
          (at_builtin; refine wpList_app rfl _ _ rfl w.heap.size u3 (edgeTo zs k) x rfl hown rfl (by rw [HE.out]; omega) (by omega) ?_; intro v' w1 hown' hg; have hbel' := below_app hbel hown hz hg; have HR1 := Lib.hid ((HR.out.alloc _).kept hg HF'.out); clear hg hown hbel))
      have hdl : (difN zs k).length ≤ 16 := by rw [← HM.out]; omega
      have hdw : within 65536000 (difN zs k) := within_difN' HW.out (by omega)
      refine (differences_any _ _ (difN zs k) HR1.out hdl 65536000 (by omega) (by omega) hdw).mono ?_
      rintro e w2 ⟨r, rfl, hr, hb⟩
      go_wp2_with fail
      have hL2 : lenOf r = m - 1 := by rw [hr.rd.lenOf, dif_len, ← HM.out]
      go_roundw
      case rel => exact ⟨k + 1, by omega, hr.rd, fun _ => hr.far hown' (Nat.le_refl _), by rw [HX.out]; exact hown'.keep (Below.grownBy hb), hbel'.trans (hb.mono hbel'.size)⟩
      case measure => simp [hL2]; simp [lenOf]; omega
    · have e : k = n := by omega
      have h0 : (difN zs k).length = 0 := by omega
      have HE := Lib.hid e
      obtain ⟨m, hm⟩ : ∃ m, m = (difN zs k).length := ⟨_, rfl⟩
      rw [← hm] at h0 ⊢
      subst h0
      clear hL hlt hfar e hm hq3 HR
      go_wp2
      go_ret
      exact ret_own hown (by rw [HE.out]) hbel
theorem implEdgeOf_any (w : World) (v : Value) (zs : List Int) (h : Rd w v zs) (hl : zs.length ≤ 1048576) :
    Calls Try.prog 26 #[v] w fun e w' => ∃ r, e = .returned r ∧ Own w' w.heap.size r (resEdgeOf zs) ∧ Below w.heap.size w w' := by
  by_cases hv : vrow zs = true
  · refine (implEdge_yes w v zs h hv).mono fun e w' ⟨r, he, hr, hb⟩ => ⟨r, he, ?_, hb⟩
    rw [resEdgeOf, if_pos hv]; exact hr
  · have hv' : vrow zs = false := by simpa using hv
    have HR := Lib.hid (show resEdgeOf zs = [] by rw [resEdgeOf, if_neg hv])
    clear hv
    go_enter Try.func26, Try.ntmps26
    go_wp2_with (go_at_call 17; refine (implValidRow_any _ _ zs h hl).mono ?_; rintro e w' ⟨rfl, rfl⟩)
    go_ret
    exact ret_own (Own.nil _ _) HR.out (Below.refl _ _)
set_option maxHeartbeats 1600000 in
theorem edge_any (w : World) (v : Value) (zs : List Int) (h : Rd w v zs) (hv : vrow zs = true) :
    Calls Try.prog 47 #[v] w fun e w' => ∃ r, e = .returned r ∧ Own w' w.heap.size r (edgeTo zs zs.length) ∧ Below w.heap.size w w' := by
  have hl := vrow_len hv
  have HW := Lib.hid (within_row hv)
  have HH := Lib.hid h
  obtain ⟨a, cap, rfl, hlc, hm, hc⟩ := h
  obtain ⟨n, hn⟩ : ∃ n, n = zs.length := ⟨_, rfl⟩
  rw [← hn] at hl HH ⊢
  have HN := Lib.hid hn
  clear hc hn hm hv hlc
  go_enter Try.func47, Try.ntmps47
  go_wp2_with (at_builtin; refine wpList_cat rfl _ _ rfl (w.heap.size + 1) _ _ [] zs rfl (Own.lit0s (lo := w.heap.size + 1) (w.alloc (.cells #[] 3)) (show _ = w.heap.size + 1 by simp) (Nat.le_refl _)) rfl ((HH.out.alloc _).alloc _) (by rw [← HN.out]; simp; omega) (by simp) ?_)
  intro v1 w1 hown1 hg1
  have hbel1 : Below w.heap.size w w1 := below_cat (((Below.refl w.heap.size w).alloc (Nat.le_refl _) _).alloc (by simp) _) ((Own.lit0s (lo := w.heap.size + 1) (w.alloc (.cells #[] 3)) (show _ = w.heap.size + 1 by simp) (Nat.le_refl _)).mono (show w.heap.size ≤ w.heap.size + 1 by omega)) (by simp; omega) hg1
  have hout : Own w1 w.heap.size (.slice (some ⟨w.heap.size, 0, none⟩) 0 0) [] := by
    have h0 := (Own.lit0 w (Nat.le_refl _)).alloc' (.cells #[] 3)
    refine h0.kept hg1 (.inr ?_)
    simp [Value.ownBlock]
  have hfar1 : Far v1 (.slice (some ⟨w.heap.size, 0, none⟩) 0 0) := Far.lit hown1 (by omega)
  have hrd1 : Rd w1 v1 zs := by have := hown1.rd; simpa using this
  clear hg1 hown1
  go_wp2
  go_loopw [3, 4, 5, 6] (fun u u0 _ _ wr => ∃ k : Nat, k ≤ n ∧ Rd wr u0 (difN zs k) ∧ (k < n → Far u0 u) ∧ Own wr w.heap.size u (edgeTo zs k) ∧ Below w.heap.size w wr) (fun _ u0 _ _ _ => lenOf u0)
  case atStart => exact ⟨0, Nat.zero_le _, hrd1, fun _ => hfar1, hout, hbel1⟩
  case round =>
    obtain ⟨k, hk, hrd, hfar, hown, hbel⟩ := hrel
    clear hrd1 hfar1 hout hbel1
    have hz := hbel.size
    have hL := (difN_len zs k).trans (show zs.length - k = n - k by rw [← HN.out])
    have HR := Lib.hid hrd
    obtain ⟨a1, c1, rfl, hq1, hq2, hq3⟩ := hrd
    by_cases hlt : k < n
    · obtain ⟨b, o, rfl, hcell⟩ := hq3.resolve_left (by intro h0; rw [h0] at hL; simp at hL; omega)
      have HF' := Lib.hid (hfar hlt)
      have h1 : wr.cell? ⟨b, o, none⟩ = some (.int .i64 ((difN zs k).getD 0 0)) := hcell 0 (by omega)
      have hbw : b < wr.heap.size := World.block_lt_of_cell? wr _ h1
      have HX := Lib.hid (show edgeTo zs (k + 1) = edgeTo zs k ++ [(difN zs k).getD 0 0] from rfl)
      have HE := Lib.hid (edgeTo_len zs k)
      have HDW := Lib.hid (within_difN' HW.out (show k ≤ 16 by omega))
      have HXD := Lib.hid (show difN zs (k + 1) = difTo (difN zs k) ((difN zs k).length - 1) from rfl)
      obtain ⟨x, hx⟩ : ∃ x, x = (difN zs k).getD 0 0 := ⟨_, rfl⟩
      rw [← hx] at h1 HX
      obtain ⟨m, hm⟩ : ∃ m, m = (difN zs k).length := ⟨_, rfl⟩
      rw [← hm] at hL HR HF' hq1 HXD hcell ⊢
      have h0 : 0 < m := by omega
      have hm1 : k + m ≤ n := by omega
      have hm2 : n ≤ k + m := by omega
      have HM := Lib.hid hm
      have HC := Lib.hid hcell
      clear hcell hq3 hfar hx hm hq2 hL
      go_wp2_with (at_builtin; refine wpList_app rfl _ _ rfl w.heap.size u3 (edgeTo zs k) x rfl hown rfl (by rw [HE.out]; omega) (by omega) ?_)
      intro v' w1 hown' hg
      have hbel' := below_app hbel hown hz hg
      have hsz1 : wr.heap.size ≤ w1.heap.size := by have := hg.size; simp at this; omega
      have HC1 : Hid (∀ i, i < m → w1.cell? ⟨b, o + i, none⟩ = some (.int .i64 ((difN zs k).getD i 0))) := fun i hi => by
        rw [← HC.out i hi, ← World.cell?_alloc_lt wr (.cells #[.int .i64 x] 3) ⟨b, o + i, none⟩ hbw]
        exact World.cell?_of_block (hg.block b (by simp; omega) (fun e' => HF'.out b o _ _ rfl e'.symm))
      clear hg hown hbel h1 HR HC
      obtain ⟨ys, hys⟩ : ∃ ys, ys = difN zs k := ⟨_, rfl⟩
      rw [← hys] at HM HXD HC1 HDW
      have HY := Lib.hid hys
      clear hys
      have hb1s : b < w1.heap.size := by omega
      go_wp2
      obtain ⟨wo, rfl⟩ : ∃ wo : World, wo = wr := ⟨_, rfl⟩
      go_loopw [5, 6] (fun u i wr => ∃ j : Nat, j ≤ m - 1 ∧ i = .int .i64 ((j : Int) + 1) ∧ Own wr w1.heap.size u (difTo ys j) ∧ Below w1.heap.size w1 wr) (fun _ i _ => m - (intOf i).toNat)
      case atStart => exact ⟨0, Nat.zero_le _, rfl, Own.lit0 w1 (Nat.le_refl _), (Below.refl _ _).alloc (Nat.le_refl _) _⟩
      case round =>
        obtain ⟨j, hj, rfl, hown, hbel⟩ := hrel
        by_cases hlt2 : j + 1 < m
        · have h1 : wr.cell? ⟨b, o + j, none⟩ = some (.int .i64 (ys.getD j 0)) := (hbel.cell (p := ⟨b, o + j, none⟩) hb1s).trans (HC1.out j (by omega))
          have h2 : wr.cell? ⟨b, o + (j + 1), none⟩ = some (.int .i64 (ys.getD (j + 1) 0)) := (hbel.cell (p := ⟨b, o + (j + 1), none⟩) hb1s).trans (HC1.out (j + 1) (by omega))
          have hb1 := HDW.out j
          have hb2 := HDW.out (j + 1)
          have hz2 := hbel.size
          have HL := Lib.hid (difTo_len ys j)
          obtain ⟨p, hp⟩ : ∃ x, x = ys.getD j 0 := ⟨_, rfl⟩
          obtain ⟨q, hq⟩ : ∃ y, y = ys.getD (j + 1) 0 := ⟨_, rfl⟩
          rw [← hp] at h1 hb1
          rw [← hq] at h2 hb2
          have HXX := Lib.hid (show difTo ys (j + 1) = difTo ys j ++ [q - p] by rw [hp, hq]; rfl)
          clear hp hq
          have s0 : (0 : Int) ≤ (j : Int) := by omega
          have s1 : (j : Int) < (m : Int) := by omega
          have s2 : (j : Int) + 1 < (m : Int) := by omega
          have s3 : ((j : Int) + 1).toNat = j + 1 := by omega
          have s4 : (0 : Int) ≤ (j : Int) + 1 := by omega
          have s5 : IntKind.i64.wrap (j : Int) = (j : Int) := IntWalk.i64_in _ (by omega)
          have s6 : IntKind.i64.wrap (q - p) = q - p := IntWalk.i64_in _ (by omega)
          have hlen : (difTo ys j).length ≤ 1048576 := by rw [HL.out]; omega
          go_wp2
          go_region_held3 (fun w' => w'.cell? ⟨b, o + j, none⟩ = some (.int .i64 p) ∧ w'.cell? ⟨b, o + (j + 1), none⟩ = some (.int .i64 q)) (first | go_keep | (go_split_ands; exact ⟨(cell_app hg (hown.alloc' _).drew hb1s (by simp; omega)).trans (by assumption), (cell_app hg (hown.alloc' _).drew hb1s (by simp; omega)).trans (by assumption)⟩)) ((refine step_app (by rfl) _ _ (by rfl) w1.heap.size wr.heap.size u5 (difTo ys j) (q - p) (by rfl) ((hown.alloc' _).drew) (by rfl) (by simp) hlen (by simp; omega) ?_; intro v'2 w2 hown2 hg))
          have hbel2 := below_app' hbel hown hz2 hg
          clear hg hown hbel s3 s5 s6 hlen h1 h2
          go_wp2
          go_roundw
          case rel => exact ⟨j + 1, by omega, by go_num, by rw [HXX.out]; exact hown2, hbel2⟩
          case measure => simp [intOf]; omega
        · have e : j = m - 1 := by omega
          have HD : Hid (difTo ys j = difN zs (k + 1)) := by rw [e]; exact HXD.out.symm
          have hL2 : lenOf u5 = m - 1 := by rw [hown.rd.lenOf, difTo_len]; exact e
          have HL2 := Lib.hid hL2
          clear e hL2
          go_wp2
          go_roundw
          case rel => exact ⟨k + 1, by omega, by rw [← HD.out]; exact hown.rd, fun _ => hown.far hown' (Nat.le_refl _), by rw [HX.out]; exact hown'.keep (Below.grownBy hbel), hbel'.trans (hbel.mono hbel'.size)⟩
          case measure => simp [HL2.out]; simp [lenOf]; omega
    · have e : k = n := by omega
      have h0 : (difN zs k).length = 0 := by omega
      have HE := Lib.hid e
      obtain ⟨m, hm⟩ : ∃ m, m = (difN zs k).length := ⟨_, rfl⟩
      rw [← hm] at h0 ⊢
      subst h0
      clear hL hlt hfar e hm hq3 HR
      go_wp2
      go_ret
      exact ret_own hown (by rw [HE.out]) hbel
set_option maxHeartbeats 400000 in
theorem specEdgeOf_any (w : World) (v : Value) (zs : List Int) (h : Rd w v zs) (hl : zs.length ≤ 1048576) :
    Calls Try.prog 25 #[v] w fun e w' => ∃ r, e = .returned r ∧ Own w' w.heap.size r (resEdgeOf zs) ∧ Below w.heap.size w w' := by
  by_cases hv : vrow zs = true
  · have HR := Lib.hid (show resEdgeOf zs = _ by rw [resEdgeOf, if_pos hv])
    go_enter Try.func25, Try.ntmps25
    go_wp2_with (first | (go_at_call 43; refine (validRow_any _ _ zs h hl).mono ?_; rintro e w' ⟨rfl, rfl⟩) | (go_at_call 47; refine (edge_any _ _ zs h hv).mono ?_; rintro e w' ⟨r, rfl, hr, hb⟩))
    go_ret
    exact ret_own hr HR.out hb
  · have hv' : vrow zs = false := by simpa using hv
    have HR := Lib.hid (show resEdgeOf zs = [] by rw [resEdgeOf, if_neg hv])
    clear hv
    go_enter Try.func25, Try.ntmps25
    go_wp2_with (go_at_call 43; refine (validRow_any _ _ zs h hl).mono ?_; rintro e w' ⟨rfl, rfl⟩)
    go_ret
    exact ret_own (Own.nil _ _) HR.out (Below.refl _ _)
end Go.Proofs.Ytdlmkcaecadcoaa
