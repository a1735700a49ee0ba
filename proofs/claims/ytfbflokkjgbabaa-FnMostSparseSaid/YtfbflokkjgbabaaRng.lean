/- Numbers within bounds: inRange of the reference, and lists all of whose numbers are within bounds. No conditions. -/
import Derived.Test.YtfbflokkjgbabaaBase
namespace Go.Proofs.Ytfbflokkjgbabaa
open Go.RowKit
theorem inRange_yes (n lo hi : Int) (w : World) (_h1 : lo ≤ n) (_h2 : n ≤ hi) :
    Calls Try.prog 33 #[.int .i64 n, .int .i64 lo, .int .i64 hi] w fun e w' => e = .returned (.bool true) ∧ w = w' := by
  go_enter Try.func33, Try.ntmps33
  go_wp2
  go_ret
  exact ⟨by simp [*], rfl⟩
theorem inRange_no (n lo hi : Int) (w : World) (h : n < lo ∨ hi < n) :
    Calls Try.prog 33 #[.int .i64 n, .int .i64 lo, .int .i64 hi] w fun e w' => e = .returned (.bool false) ∧ w = w' := by
  by_cases h1 : lo ≤ n
  · have h2 : hi < n := by omega
    clear h
    go_enter Try.func33, Try.ntmps33
    go_wp2
    go_ret
    exact ⟨by simp [*], rfl⟩
  · clear h
    go_enter Try.func33, Try.ntmps33
    go_wp2
    go_ret
    exact ⟨by simp [*], rfl⟩
/-- Numbers within bounds. -/
def inB (lo hi z : Int) : Bool := decide (lo ≤ z) && decide (z ≤ hi)
/-- All numbers are within bounds. -/
def allB (lo hi : Int) (zs : List Int) : Bool := zs.all (inB lo hi)
theorem allB_iff {lo hi : Int} {zs : List Int} : allB lo hi zs = true ↔ ∀ z ∈ zs, lo ≤ z ∧ z ≤ hi := by
  simp [allB, inB]
theorem allB_snoc {lo hi : Int} {zs : List Int} {k : Nat} (h : allB lo hi (zs.take k) = true) (hk : k < zs.length) (h1 : lo ≤ zs.getD k 0) (h2 : zs.getD k 0 ≤ hi) : allB lo hi (zs.take (k + 1)) = true := by
  rw [take_snoc' zs k hk]
  rw [allB_iff] at h ⊢
  intro z hz
  rcases List.mem_append.1 hz with hz | hz
  · exact h z hz
  · simp only [List.mem_singleton] at hz
    subst hz; exact ⟨h1, h2⟩
theorem allB_bad {lo hi : Int} {zs : List Int} {k : Nat} (hk : k < zs.length) (h : zs.getD k 0 < lo ∨ hi < zs.getD k 0) : allB lo hi zs = false := by
  rw [Bool.eq_false_iff]
  intro ha
  have := allB_iff.1 ha (zs.getD k 0) (by simp [List.getD, hk])
  omega
end Go.Proofs.Ytfbflokkjgbabaa
