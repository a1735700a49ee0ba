/- The draws of rows: what comes out is a row of at most 40 numbers in new memory; nothing that was there is changed. Conditions: few draws ahead. -/
import Derived.Test.YtlnjfgmodfkiiaaReader
namespace Go.Proofs.Ytlnjfgmodfkiiaa
open Go.RowKit
theorem Own.rs_kept {w w' : World} {R : Nat} {v : Value} {zs : List Int} (h : Own w (R + 1) v zs) (g : w.grownBy w' (some R)) : Own w' (R + 1) v zs := by
  refine h.kept g ?_
  cases e : v.ownBlock with
  | none => exact .inl rfl
  | some k =>
    refine .inr fun hh => ?_
    have := (World.ownsRow.lt h k e).1
    simp only [Option.some.injEq] at hh
    omega
theorem Rs.app {w0 w w' : World} {R m : Nat} {v : Value} {zs : List Int} {o : Obj} (hs : Rs w0 w R m) (ho : Own w (R + 1) v zs) (g : (w.alloc o).grownBy w' v.ownBlock) : Rs w0 w' R m :=
  (hs.alloc o).grown g fun k hk => by have := (World.ownsRow.lt ho k hk).1; omega
theorem Rs.set {w0 w : World} {R m g : Nat} (hs : Rs w0 w R m) (hg : R + 1 ≤ g) (i : Nat) (v : Value) : Rs w0 (w.setCell ⟨g, i, none⟩ v) R m :=
  hs.grown (grown_set i v) fun k hk => by simp only [Option.some.injEq] at hk; omega
/-- How long a slice is. -/
def lenOf : Value → Nat
  | .slice _ n _ => n
  | _ => 0
end Go.Proofs.Ytlnjfgmodfkiiaa
