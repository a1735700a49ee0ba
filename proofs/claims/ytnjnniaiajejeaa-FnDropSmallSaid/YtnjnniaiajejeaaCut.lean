/- Parts of slices that can be read. No conditions. -/
import Derived.Test.YtnjnniaiajejeaaMem
namespace Go.Proofs.Ytnjnniaiajejeaa
open Go.RowKit
theorem Rd.take {w : World} {a : Option Addr} {n c k : Nat} {zs : List Int} (h : Rd w (.slice a n c) zs) (hk : k ≤ n) : Rd w (.slice a k c) (zs.take k) := by
  have hn := h.len
  obtain ⟨a', c', e, h1, h2, h3⟩ := h
  simp only [Value.slice.injEq] at e
  obtain ⟨rfl, _, rfl⟩ := e
  refine ⟨a, c, by rw [List.length_take]; congr 1; omega, by rw [List.length_take]; omega, h2, ?_⟩
  rcases h3 with rfl | ⟨b, o, ha, hc⟩
  · exact .inl (by simp)
  · refine .inr ⟨b, o, ha, fun i hi => ?_⟩
    rw [List.length_take] at hi
    rw [hc i (by omega)]
    simp [show i < k by omega]
theorem Rd.drop {w : World} {b o n c k : Nat} {zs : List Int} (h : Rd w (.slice (some ⟨b, o, none⟩) n c) zs) (hk : k ≤ n) : Rd w (.slice (some ⟨b, o + k, none⟩) (n - k) (c - k)) (zs.drop k) := by
  have hn := h.len
  obtain ⟨a', c', e, h1, h2, h3⟩ := h
  simp only [Value.slice.injEq] at e
  obtain ⟨rfl, _, rfl⟩ := e
  refine ⟨_, c - k, by rw [List.length_drop]; congr 1; omega, by rw [List.length_drop]; omega, by omega, ?_⟩
  rcases h3 with rfl | ⟨b', o', ha, hc⟩
  · exact .inl (by simp)
  · simp only [Option.some.injEq, Addr.mk.injEq] at ha
    obtain ⟨rfl, rfl, _⟩ := ha
    refine .inr ⟨b, o + k, rfl, fun i hi => ?_⟩
    rw [List.length_drop] at hi
    rw [show o + k + i = o + (k + i) by omega, hc (k + i) (by omega)]
    simp
theorem allB_take {lo hi : Int} {zs : List Int} (h : ∀ z ∈ zs, lo ≤ z ∧ z ≤ hi) (k : Nat) : ∀ z ∈ zs.take k, lo ≤ z ∧ z ≤ hi := fun z hz => h z (List.mem_of_mem_take hz)
end Go.Proofs.Ytnjnniaiajejeaa
