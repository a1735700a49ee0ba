/- Rows given by a function of the index. No conditions. -/
import Derived.Test.YtfbflokkjgbabaaMem
namespace Go.Proofs.Ytfbflokkjgbabaa
open Go.RowKit
/-- The row of f 0, f 1 and so on, n numbers. -/
def tab (n : Nat) (f : Nat → Int) : List Int := (List.range n).map f
theorem tab_len (n : Nat) (f : Nat → Int) : (tab n f).length = n := by simp [tab]
theorem tab_get (n : Nat) (f : Nat → Int) {k : Nat} (h : k < n) : (tab n f).getD k 0 = f k := by simp [tab, h]
theorem tab_congr {n : Nat} {f g : Nat → Int} (h : ∀ j, j < n → f j = g j) : tab n f = tab n g := by
  apply List.map_congr_left
  intro j hj
  exact h j (by simpa using hj)
theorem tab_set (n : Nat) (f : Nat → Int) (k : Nat) (x : Int) : (tab n f).set k x = tab n (fun j => if j = k then x else f j) := by
  apply List.ext_getElem?
  intro j
  simp only [tab, List.getElem?_set, List.getElem?_map, List.length_map, List.length_range]
  by_cases e : k = j
  · subst e
    by_cases h : k < n
    · simp [h]
    · simp [h]
  · have e' : ¬ j = k := fun h => e h.symm
    by_cases h : j < n
    · simp [h, e, e']
    · simp [h, e]
theorem tab_zero (n : Nat) : List.replicate n (0 : Int) = tab n (fun _ => 0) := by
  apply List.ext_getElem?
  intro j
  simp only [tab, List.getElem?_replicate, List.getElem?_map]
  by_cases h : j < n <;> simp [h]
theorem tab_of (zs : List Int) : zs = tab zs.length (fun j => zs.getD j 0) := by
  apply List.ext_getElem?
  intro j
  simp only [tab, List.getElem?_map]
  by_cases h : j < zs.length
  · simp [h]
  · simp [h]
theorem tab_snoc (n : Nat) (f : Nat → Int) : tab (n + 1) f = tab n f ++ [f n] := by simp [tab, List.range_succ]
theorem tab_inj {n : Nat} {f g : Nat → Int} (h : tab n f = tab n g) (j : Nat) (hj : j < n) : f j = g j := by
  rw [← tab_get n f hj, ← tab_get n g hj, h]
theorem Row.getT {w : World} {lo g n c : Nat} {f : Nat → Int} (h : Row w lo g n c (tab n f)) (k : Nat) (hk : k < n) : w.cell? ⟨g, k, none⟩ = some (.int .i64 (f k)) := by
  rw [h.get k hk, tab_get n f hk]
theorem Row.setT {w : World} {lo g n c : Nat} {f : Nat → Int} (h : Row w lo g n c (tab n f)) (k : Nat) (x : Int) {f' : Nat → Int} (hf : ∀ j, j < n → f' j = if j = k then x else f j) : Row (w.setCell ⟨g, k, none⟩ (.int .i64 x)) lo g n c (tab n f') := by
  rw [tab_congr hf, ← tab_set]; exact h.set k x
theorem Row.to {w : World} {lo g n c : Nat} {f f' : Nat → Int} (h : Row w lo g n c (tab n f)) (hf : ∀ j, j < n → f' j = f j) : Row w lo g n c (tab n f') := by
  rw [tab_congr hf]; exact h
theorem Row.lt {w : World} {lo g n c : Nat} {zs : List Int} (h : Row w lo g n c zs) : lo ≤ g ∧ g < w.heap.size := World.ownsRow.lt h.2 g rfl
end Go.Proofs.Ytfbflokkjgbabaa
