/- Energies are those of parts, and those of the row turned round: in plain lists. No conditions. -/
import Derived.Test.YtnjnniaiajejeaaEnergy1
import Derived.Test.YtnjnniaiajejeaaTab
namespace Go.Proofs.Ytnjnniaiajejeaa
open Go.RowKit
/-- Sums of squares. -/
def sqT (f : Nat → Int) : Nat → Int
  | 0 => 0
  | k + 1 => sqT f k + f k * f k
theorem sqT_congr {f g : Nat → Int} {n : Nat} (h : ∀ j, j < n → f j = g j) : sqT f n = sqT g n := by
  induction n with
  | zero => rfl
  | succ n ih => simp only [sqT]; rw [ih (fun j hj => h j (by omega)), h n (by omega)]
theorem sqT_cons (f : Nat → Int) (n : Nat) : sqT f (n + 1) = f 0 * f 0 + sqT (fun j => f (j + 1)) n := by
  induction n with
  | zero => simp [sqT]
  | succ n ih => rw [sqT, ih, sqT]; omega
theorem sqT_turn (g : Nat → Int) (n : Nat) : sqT (fun t => g (n - 1 - t)) n = sqT g n := by
  induction n with
  | zero => rfl
  | succ n ih =>
    rw [sqT_cons, sqT, ← ih, show n + 1 - 1 - 0 = n by omega, sqT_congr (g := fun t => g (n - 1 - t)) (fun j _ => by rw [show n + 1 - 1 - (j + 1) = n - 1 - j by omega])]
    omega
theorem en_sq (zs : List Int) (k : Nat) : enTo zs k = sqT (fun j => zs.getD j 0) k := by
  induction k with
  | zero => rfl
  | succ k ih => simp only [enTo, sqT, ih]
theorem getD_drop1 (zs : List Int) (j : Nat) : (zs.drop 1).getD j 0 = zs.getD (j + 1) 0 := by
  simp
theorem en_cons (zs : List Int) (k : Nat) : enTo zs (k + 1) = zs.getD 0 0 * zs.getD 0 0 + enTo (zs.drop 1) k := by
  rw [en_sq, sqT_cons, en_sq]
  rw [sqT_congr (g := fun j => (zs.drop 1).getD j 0) (fun j _ => (getD_drop1 zs j).symm)]
/-- The row turned round. -/
def turnT (zs : List Int) (j : Nat) : List Int := tab j (fun t => zs.getD (zs.length - 1 - t) 0)
theorem en_turn (zs : List Int) : enTo (turnT zs zs.length) zs.length = enTo zs zs.length := by
  rw [en_sq, en_sq, ← sqT_turn (fun j => zs.getD j 0)]
  exact sqT_congr fun j hj => tab_get _ _ hj
theorem vrow_of {ys : List Int} (hl : ys.length ≤ 16) (h : ∀ j, -1000 ≤ ys.getD j 0 ∧ ys.getD j 0 ≤ 1000) : vrow ys = true := by
  simp only [vrow, Bool.and_eq_true, decide_eq_true_eq]
  refine ⟨hl, allB_iff.2 fun z hz => ?_⟩
  obtain ⟨j, hj, rfl⟩ := List.getElem_of_mem hz
  have := h j
  rw [List.getD_eq_getElem?_getD, List.getElem?_eq_getElem hj] at this
  exact this
theorem vrow_drop1 {zs : List Int} (h : vrow zs = true) : vrow (zs.drop 1) = true :=
  vrow_of (by have := vrow_len h; rw [List.length_drop]; omega) fun j => by rw [getD_drop1]; exact vrow_all h _
theorem vrow_turn {zs : List Int} (h : vrow zs = true) : vrow (turnT zs zs.length) = true :=
  vrow_of (by have := vrow_len h; rw [turnT, tab_len]; omega) fun j => by
    by_cases hj : j < zs.length
    · rw [turnT, tab_get _ _ hj]; exact vrow_all h _
    · rw [List.getD_eq_getElem?_getD, List.getElem?_eq_none (by rw [turnT, tab_len]; omega)]; exact ⟨by decide, by decide⟩
theorem ret_drop1 {zs : List Int} (h : vrow zs = true) (hl : 0 < zs.length) : retEnergyOf zs = zs.getD 0 0 * zs.getD 0 0 + retEnergyOf (zs.drop 1) := by
  rw [retEnergyOf, if_pos h, retEnergyOf, if_pos (vrow_drop1 h), List.length_drop]
  obtain ⟨k, hk⟩ : ∃ k, zs.length = k + 1 := ⟨zs.length - 1, by omega⟩
  rw [hk, en_cons, Nat.add_sub_cancel]
theorem ret_turn {zs : List Int} (h : vrow zs = true) : retEnergyOf (turnT zs zs.length) = retEnergyOf zs := by
  rw [retEnergyOf, if_pos (vrow_turn h), retEnergyOf, if_pos h, ← en_turn zs]
  rw [turnT, tab_len]
theorem ret_nil : retEnergyOf [] = 0 := rfl
theorem ret_bd {zs : List Int} (h : vrow zs = true) : 0 ≤ retEnergyOf zs ∧ retEnergyOf zs ≤ 16000000 := by
  rw [retEnergyOf, if_pos h]
  have a := enTo_bd (vrow_all h) zs.length
  have b := vrow_len h
  omega
theorem enI (W : World) (v : Value) (zs : List Int) (h : Rd W v zs) (hl : zs.length ≤ 1048576) :
    Calls Try.prog 19 #[v] W fun e w' => e = .returned (.int .i64 (retEnergyOf zs)) ∧ W.grownBy w' none :=
  (implEnergyOf_any W v zs h hl).mono fun _ _ ⟨h1, h2⟩ => ⟨h1, h2 ▸ World.grownBy.refl _ _⟩
theorem enS (W : World) (v : Value) (zs : List Int) (h : Rd W v zs) (hl : zs.length ≤ 1048576) :
    Calls Try.prog 20 #[v] W fun e w' => e = .returned (.int .i64 (retEnergyOf zs)) ∧ W.grownBy w' none :=
  (specEnergyOf_any W v zs h hl).mono fun _ _ ⟨h1, h2⟩ => ⟨h1, h2.grown⟩
set_option maxHeartbeats 800000 in
theorem turned_any (w : World) (v : Value) (zs : List Int) (h : Rd w v zs) (hl : zs.length ≤ 1000) :
    Calls Try.prog 21 #[v] w fun e w' => ∃ r, e = .returned r ∧ Own w' w.heap.size r (turnT zs zs.length) ∧ Below w.heap.size w w' := by
  obtain ⟨a, cap, rfl, hlc, hm, hc⟩ := h
  obtain ⟨n, hn⟩ : ∃ n, n = zs.length := ⟨_, rfl⟩
  have HT := Lib.hid (show ∀ j, turnT zs (j + 1) = turnT zs j ++ [zs.getD (n - 1 - j) 0] from fun j => by rw [hn]; exact tab_snoc j _)
  rw [← hn] at hlc hl ⊢
  have HN := Lib.hid hn
  have HC := Lib.hid hc
  clear hc hn hm
  go_enter Try.func21, Try.ntmps21
  go_wp2
  go_loopw [3, 4] (fun u i wr => ∃ j : Nat, j ≤ n ∧ i = .int .i64 ((n : Int) - 1 - (j : Int)) ∧ Own wr w.heap.size u (turnT zs j) ∧ Below w.heap.size w wr) (fun _ i _ => (intOf i + 1).toNat)
  case atStart => exact ⟨0, Nat.zero_le _, by simp, Own.lit0 w (Nat.le_refl _), (Below.refl _ _).alloc (Nat.le_refl _) _⟩
  case round =>
    obtain ⟨j, hj, rfl, hown, hbel⟩ := hrel
    have hlen : (turnT zs j).length = j := tab_len _ _
    by_cases hlt : j < n
    · obtain ⟨q, hq⟩ : ∃ q, q + j + 1 = n := ⟨n - 1 - j, by omega⟩
      obtain ⟨b, o, rfl, hcell⟩ := HC.out.resolve_left (by intro h0; have := HN.out; rw [h0] at this; simp at this; omega)
      have h1 : wr.cell? ⟨b, o + q, none⟩ = some (.int .i64 (zs.getD q 0)) := (hbel.cell (World.block_lt_of_cell? w _ (hcell q (by rw [← HN.out]; omega)))).trans (hcell q (by rw [← HN.out]; omega))
      clear hcell HC
      have hz := hbel.size
      have HX := Lib.hid (show turnT zs (j + 1) = turnT zs j ++ [zs.getD q 0] by rw [HT.out, show n - 1 - j = q by omega])
      rw [show (n : Int) - 1 - (j : Int) = (q : Int) by omega]
      obtain ⟨x, hx⟩ : ∃ x, x = zs.getD q 0 := ⟨_, rfl⟩
      rw [← hx] at h1 HX
      clear hx HT
      have hlen2 : (turnT zs j).length ≤ 1048576 := by omega
      obtain ⟨ys, hys⟩ : ∃ ys, ys = turnT zs j := ⟨_, rfl⟩
      rw [← hys] at hown hlen2 HX
      clear hys hlen
      go_wp2_with (at_builtin; refine wpList_app rfl _ _ rfl w.heap.size u3 ys x rfl hown rfl hlen2 (by omega) ?_)
      intro v' w1 hown' hg
      have hbel' := below_app hbel hown hz hg
      clear hg hown hbel
      go_wp2
      go_roundw
      case rel => exact ⟨j + 1, by omega, by go_num, by rw [HX.out]; exact hown', hbel'⟩
      case measure => simp [intOf]
    · have e : j = n := by omega
      subst e
      rw [show (j : Int) - 1 - (j : Int) = -1 by omega]
      go_wp2
      go_ret
      exact ret_own hown rfl hbel
end Go.Proofs.Ytnjnniaiajejeaa
