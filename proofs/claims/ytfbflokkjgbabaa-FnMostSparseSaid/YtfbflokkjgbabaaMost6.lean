/- MostSparse: the reference's search and the program's loop find the same set. Conditions: none. -/
import Derived.Test.YtfbflokkjgbabaaSparse6
import Derived.Test.YtfbflokkjgbabaaOnes6
namespace Go.Proofs.Ytfbflokkjgbabaa
open Go.RowKit
/-- The better one of two sets. -/
def bet (o b : Nat) : Nat := if popN b < popN o ∨ (popN o = popN b ∧ o < b) then o else b
/-- The search from place 13 - m on. -/
def lpM : Nat → Nat → Nat → Nat
  | 0, _, best => best
  | m + 1, set, best => if apartN (set + pw2 (12 - m)) = true then lpM m set (bet (lpM m (set + pw2 (12 - m)) (set + pw2 (12 - m))) best) else lpM m set best
theorem lpM_yes {m set best : Nat} (h : apartN (set + pw2 (12 - m)) = true) : lpM (m + 1) set best = lpM m set (bet (lpM m (set + pw2 (12 - m)) (set + pw2 (12 - m))) best) := by rw [lpM, if_pos h]
theorem lpM_no {m set best : Nat} (h : apartN (set + pw2 (12 - m)) = false) : lpM (m + 1) set best = lpM m set best := by rw [lpM, if_neg (by rw [h]; simp)]
theorem bet_le {o b : Nat} (ho : o ≤ 8191) (hb : b ≤ 8191) : bet o b ≤ 8191 := by unfold bet; split <;> assumption
theorem next_lt {s m : Nat} (hm : m ≤ 12) (hs : s < pw2 (12 - m)) : s + pw2 (12 - m) < pw2 (13 - m) := by
  rw [show 13 - m = (12 - m) + 1 by omega, pw2]; omega
theorem pw_8192 {j : Nat} (h : j ≤ 13) : pw2 j ≤ 8192 := Nat.le_trans (pw2_mono h) (by decide)
theorem lpM_le : ∀ m, m ≤ 13 → ∀ s b, s < pw2 (13 - m) → b ≤ 8191 → lpM m s b ≤ 8191 := by
  intro m
  induction m with
  | zero => intro _ s b _ hb; exact hb
  | succ m ih =>
    intro hm s b hs hb
    rw [show 13 - (m + 1) = 12 - m by omega] at hs
    have h1 := next_lt (by omega) hs
    have h2 := pw_8192 (show 13 - m ≤ 13 by omega)
    have h3 := Nat.lt_of_lt_of_le hs (pw2_mono (show 12 - m ≤ 13 - m by omega))
    rw [lpM]
    split
    · exact ih (by omega) _ _ h3 (bet_le (ih (by omega) _ _ h1 (by omega)) hb)
    · exact ih (by omega) _ _ h3 hb
/-- The greatest one among the first s sets, the first of several. -/
def miTo : Nat → Nat
  | 0 => 0
  | s + 1 => if popN (miTo s) < popN s ∧ apartN s = true then s else miTo s
theorem miTo_le (s : Nat) : miTo s ≤ s := by
  induction s with
  | zero => exact Nat.le_refl _
  | succ s ih => rw [miTo]; split <;> omega
/-- The same, reckoned from the front. -/
def miGo : Nat → Nat → Nat → Nat
  | 0, _, b => b
  | f + 1, s, b =>
    match (if Nat.ble (popN s) (popN b) then b else if apartN s then s else b) with
    | 0 => miGo f (s + 1) 0
    | c + 1 => miGo f (s + 1) (c + 1)
theorem miGo_eq (f : Nat) : ∀ s, miGo f s (miTo s) = miTo (s + f) := by
  induction f with
  | zero => intro s; rfl
  | succ f ih =>
    intro s
    have e : (if Nat.ble (popN s) (popN (miTo s)) then miTo s else if apartN s then s else miTo s) = miTo (s + 1) := by
      rw [miTo]
      by_cases h1 : popN (miTo s) < popN s
      · have h2 : Nat.ble (popN s) (popN (miTo s)) = false := by
          cases e : Nat.ble (popN s) (popN (miTo s)) with
          | false => rfl
          | true => have := Nat.le_of_ble_eq_true e; omega
        rw [h2]
        by_cases h3 : apartN s = true
        · rw [if_neg (by simp), if_pos h3, if_pos ⟨h1, h3⟩]
        · rw [if_neg (by simp), if_neg h3, if_neg (fun h => h3 h.2)]
      · have h2 : Nat.ble (popN s) (popN (miTo s)) = true := Nat.ble_eq_true_of_le (by omega)
        rw [h2, if_pos rfl, if_neg (fun h => h1 h.1)]
    rw [show s + (f + 1) = (s + 1) + f by omega, ← ih (s + 1), ← e, miGo]
    split <;> rename_i h <;> rw [h]
theorem most_impl : miTo 8192 = 83 := by
  have h : miGo 8192 0 0 = 83 := by decide +kernel
  have := miGo_eq 8192 0
  rw [show miTo 0 = 0 from rfl, h] at this
  simpa using this.symm
theorem most_spec : lpM 13 0 0 = 83 := by decide +kernel
end Go.Proofs.Ytfbflokkjgbabaa
