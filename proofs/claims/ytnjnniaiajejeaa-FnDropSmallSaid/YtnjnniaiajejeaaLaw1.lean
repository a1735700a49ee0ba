/- What the walks of the laws on rows share: the two rows that a law looks at, through calls that lay new memory. No conditions. -/
import Derived.Test.YtnjnniaiajejeaaDraw1
import Derived.Test.YtnjnniaiajejeaaEq
import Derived.Test.YtnjnniaiajejeaaCut
namespace Go.Proofs.Ytnjnniaiajejeaa
open Go.RowKit
theorem cell_g {W W' : World} {p : Addr} {x : Value} (h : W.cell? p = some x) (g : W.grownBy W' none) : W'.cell? p = some x :=
  (World.cell?_of_block (w := W) (g.block _ (World.block_lt_of_cell? W _ h) (by simp))).trans h
/-- Two rows of the law's own. -/
def Sd (w : World) (vr : Value) (zs : List Int) (vo : Value) (ds : List Int) (W : World) : Prop := Own W w.heap.size vr zs ∧ Own W w.heap.size vo ds ∧ Below w.heap.size w W
theorem Sd.step {w W W' : World} {vr vo : Value} {zs ds : List Int} (h : Sd w vr zs vo ds W) (g : W.grownBy W' none) : Sd w vr zs vo ds W' :=
  ⟨h.1.keep g, h.2.1.keep g, h.2.2.grown g h.2.2.size (by simp)⟩
theorem Sd.drew {w W : World} {vr vo : Value} {zs ds : List Int} (h : Sd w vr zs vo ds W) : Sd w vr zs vo ds W.drew := h.step (Quiet.grown ⟨1, rfl⟩)
theorem Sd.drewN {w W : World} {vr vo : Value} {zs ds : List Int} (h : Sd w vr zs vo ds W) (k : Nat) : Sd w vr zs vo ds (W.drewN k) := h.step (Quiet.grown ⟨k, rfl⟩)
theorem Sd.row {w W : World} {vr vo : Value} {zs ds : List Int} (h : Sd w vr zs vo ds W) : Rd W vr zs := h.1.rd
theorem Sd.out {w W : World} {vr vo : Value} {zs ds : List Int} (h : Sd w vr zs vo ds W) : Rd W vo ds := h.2.1.rd
theorem Sd.bel {w W : World} {vr vo : Value} {zs ds : List Int} (h : Sd w vr zs vo ds W) : Below w.heap.size w W := h.2.2
theorem eq_yes (W : World) (v v' : Value) (zs zs' : List Int) (h : Rd W v zs) (h' : Rd W v' zs') (e : zs = zs') :
    Calls Try.prog 10 #[v, v'] W fun e w' => e = .returned (.bool true) ∧ W.grownBy w' none :=
  (eqL_any W v v' zs zs' h h').mono fun _ _ ⟨he, hq⟩ => ⟨by rw [he, decide_eq_true e], hq.grown⟩
/-! A region that draws, its operations taken one by one. -/
section
variable {P : Program} {ops : Array Oper} {Q : Exit → Act → World → Prop} {md : Region.Mode} {S : World → Prop}
theorem opAt_get {i : Nat} {oi : Oper} {rest : List Oper} (h : ops.toList.drop i = oi :: rest) : ops[i]? = some oi := by
  have := congrArg List.head? h
  simpa using this
theorem take_t (i t : Nat) {oi : Oper} {rest : List Oper} {v : Value} {fuel : Nat} {listed : Array Bool} {a : Act} {w : World} (hi : ops.toList.drop i = oi :: rest) (hd : oi.dst = some t)
    (hs : Region.noSelect ops = true) (hf : Region.free md ops listed i = true) (hr : (Region.ready md ops listed).contains i = true) (hQ : ∀ c a w, Q (.panic c) (a.put (some t) v) w → Q (.panic c) a w)
    (hw : Region.wanted oi (yielded ops a.tmps) = true) (hS : S w) (hv : ∀ w, S w → (execOp a.eval oi).run P w = .ok (.value v) w)
    (h : wpAnyH P md ops Q S fuel (listed.setIfInBounds i true) (a.put (some t) v) w) : wpAnyH P md ops Q S (fuel + 1) listed a w :=
  wpAnyH_take (opAt_get hi) hs hf hr (hd ▸ hQ) (.inl ⟨hw, hv⟩) hS (hd ▸ h)
theorem take_u (i t : Nat) {oi : Oper} {rest : List Oper} {fuel : Nat} {listed : Array Bool} {a : Act} {w : World} (hi : ops.toList.drop i = oi :: rest) (hd : oi.dst = some t)
    (hs : Region.noSelect ops = true) (hf : Region.free md ops listed i = true) (hr : (Region.ready md ops listed).contains i = true) (hQ : ∀ c a w, Q (.panic c) (a.put (some t) undef) w → Q (.panic c) a w)
    (hw : Region.wanted oi (yielded ops a.tmps) = false) (hS : S w)
    (h : wpAnyH P md ops Q S fuel (listed.setIfInBounds i true) (a.put (some t) undef) w) : wpAnyH P md ops Q S (fuel + 1) listed a w :=
  wpAnyH_take (opAt_get hi) hs hf hr (hd ▸ hQ) (.inr ⟨hw, rfl⟩) hS (hd ▸ h)
theorem call_c (i : Nat) {oi : Oper} {rest : List Oper} {fuel : Nat} {listed : Array Bool} {a : Act} {w : World} (hi : ops.toList.drop i = oi :: rest) (hr : Region.ready md ops listed = [i]) (hw : Region.wanted oi (yielded ops a.tmps) = true)
    (h : ∀ K' : Act → World → Prop, Shut (∀ a w, S w → (S w → wpAnyH P md ops Q S fuel (listed.setIfInBounds i true) a w) → K' a w) → Oper.wp P oi a w K' Q) : wpAnyH P md ops Q S (fuel + 1) listed a w :=
  wpAnyH_ready hr (by simp) (AllReadyH.cons (opAt_get hi) (fun K' hK => by rw [if_pos hw]; exact h K' hK) AllReadyH.nil)
end
end Go.Proofs.Ytnjnniaiajejeaa
