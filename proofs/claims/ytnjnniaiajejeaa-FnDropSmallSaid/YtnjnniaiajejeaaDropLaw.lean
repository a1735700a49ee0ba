/- What is dropped once is dropped; energies do not grow: in plain lists. No conditions. -/
import Derived.Test.YtnjnniaiajejeaaDrop4
import Derived.Test.YtnjnniaiajejeaaEnLaw
namespace Go.Proofs.Ytnjnniaiajejeaa
open Go.RowKit
theorem drop_eq {zs : List Int} {e : Int} (h : okDropSmall zs e = true) : resDropSmall zs e = tab zs.length (drT zs e zs.length) := by rw [resDropSmall, if_pos h]
theorem drop_len {zs : List Int} {e : Int} (h : okDropSmall zs e = true) : (resDropSmall zs e).length = zs.length := by rw [drop_eq h, tab_len]
theorem drop_get {zs : List Int} {e : Int} (h : okDropSmall zs e = true) {j : Nat} (hj : j < zs.length) : (resDropSmall zs e).getD j 0 = drT zs e zs.length j := by rw [drop_eq h, tab_get _ _ hj]
theorem drT_or (zs : List Int) (e : Int) (k j : Nat) : drT zs e k j = 0 ∨ drT zs e k j = zs.getD j 0 := by
  unfold drT; split
  · exact .inl rfl
  · exact .inr rfl
theorem ok_parts {zs : List Int} {e : Int} (h : okDropSmall zs e = true) : vrow zs = true ∧ inB 0 1000 e = true := by simpa [okDropSmall] using h
theorem drop_ok {zs : List Int} {e : Int} (h : okDropSmall zs e = true) : okDropSmall (resDropSmall zs e) e = true := by
  obtain ⟨h1, h2⟩ := ok_parts h
  simp only [okDropSmall, Bool.and_eq_true]
  refine ⟨vrow_of (by rw [drop_len h]; exact vrow_len h1) fun j => ?_, h2⟩
  by_cases hj : j < zs.length
  · rw [drop_get h hj]
    have := vrow_all h1 j
    rcases drT_or zs e zs.length j with e | e <;> rw [e]
    · exact ⟨by decide, by decide⟩
    · exact this
  · rw [List.getD_eq_getElem?_getD, List.getElem?_eq_none (by rw [drop_len h]; omega)]; exact ⟨by decide, by decide⟩
theorem drop_drop {zs : List Int} {e : Int} (h : okDropSmall zs e = true) : resDropSmall (resDropSmall zs e) e = resDropSmall zs e := by
  rw [drop_eq (drop_ok h), drop_len h]
  conv => rhs; rw [drop_eq h]
  refine tab_congr fun j hj => ?_
  have hg := drop_get h hj
  unfold drT at hg ⊢
  rw [drop_len h, hg]
  by_cases hc : zs.length - zs.length / 2 ≤ j ∧ j < zs.length ∧ zs.getD j 0 < e ∧ -e < zs.getD j 0
  · rw [if_pos hc]; split <;> rfl
  · rw [if_neg hc, if_neg hc]
theorem sq_le {f g : Nat → Int} {n : Nat} (h : ∀ j, j < n → f j * f j ≤ g j * g j) : sqT f n ≤ sqT g n := by
  induction n with
  | zero => exact Int.le_refl _
  | succ n ih => have a := ih (fun j hj => h j (by omega)); have b := h n (by omega); simp only [sqT]; omega
theorem drop_en {zs : List Int} {e : Int} (h : okDropSmall zs e = true) : retEnergyOf (resDropSmall zs e) ≤ retEnergyOf zs := by
  rw [retEnergyOf, if_pos (ok_parts (drop_ok h)).1, retEnergyOf, if_pos (ok_parts h).1, drop_len h, en_sq, en_sq]
  refine sq_le fun j hj => ?_
  rw [drop_get h hj]
  have hx := vrow_all (ok_parts h).1 j
  have := (sq_bd hx.1 hx.2).1
  rcases drT_or zs e zs.length j with e | e <;> rw [e]
  · simpa using this
  · exact Int.le_refl _
theorem tab_take (n k : Nat) (f : Nat → Int) : (tab n f).take k = tab (min k n) f := by
  simp [tab, ← List.map_take, List.take_range]
theorem drop_take {zs : List Int} {e : Int} (h : okDropSmall zs e = true) : (resDropSmall zs e).take (zs.length - zs.length / 2) = zs.take (zs.length - zs.length / 2) := by
  conv => rhs; rw [tab_of zs]
  rw [drop_eq h, tab_len, tab_take, tab_take]
  refine tab_congr fun j hj => ?_
  unfold drT
  rw [if_neg (by omega)]
theorem drop_none {zs : List Int} {e : Int} (h : okDropSmall zs e = true) (he : e ≤ 1) : resDropSmall zs e = zs := by
  conv => rhs; rw [tab_of zs]
  rw [drop_eq h]
  refine tab_congr fun j hj => ?_
  unfold drT
  split
  · omega
  · rfl
end Go.Proofs.Ytnjnniaiajejeaa
