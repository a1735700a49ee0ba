/- Words and small laws on slices of integers that every text of this seat uses: Own (a slice that the call made), Rd (a slice that can be read), Quiet (only draws). No conditions. -/
import Derived.Test.YtfbflokkjgbabaaProg
import Derived.WalkKit
import Derived.Deep.QuietTactic
import Derived.BigQuiet
import Derived.Lib.Hide
namespace Go.Proofs.Ytfbflokkjgbabaa
open Go.RowKit

theorem Try.infoInt : (Try.prog.info? 3).map (fun i => (i.zero, i.size, i.bytes)) = some (some (.int .i64 0), 1, 8) := by kernel_rfl

theorem ret_int {k : IntKind} {a b : Int} (h : a = b) : Ending.returned (.int k a) = .returned (.int k b) := by rw [h]
theorem ret_bool {a b : Bool} (h : a = b) : Ending.returned (.bool a) = .returned (.bool b) := by rw [h]

/-- A slice of integers that the call made: nil, or in a block from lo on. -/
def Own (w : World) (lo : Nat) (v : Value) (zs : List Int) : Prop := w.ownsRow lo 3 1 v zs.length (zs.map (Value.int .i64))
/-- A slice of integers that can be read. -/
def Rd (w : World) (v : Value) (zs : List Int) : Prop :=
  ∃ a cap, v = .slice a zs.length cap ∧ zs.length ≤ cap ∧ cap ≤ maxLen ∧ (zs = [] ∨ ∃ b off, a = some ⟨b, off, none⟩ ∧ ∀ i, i < zs.length → w.cell? ⟨b, off + i, none⟩ = some (.int .i64 (zs.getD i 0)))
/-- Only draws. -/
def Quiet (w w' : World) : Prop := ∃ m, w' = w.drewN m

theorem Quiet.refl (w : World) : Quiet w w := ⟨0, rfl⟩
theorem Quiet.drewN (w : World) (m n : Nat) : Quiet w ((w.drewN m).drewN n) := ⟨m + n, World.drewN_drewN _ _ _⟩
theorem Quiet.grown {w w' : World} (h : Quiet w w') : w.grownBy w' none := by
  obtain ⟨m, rfl⟩ := h
  exact ⟨rfl, rfl, rfl, Nat.le_refl _, fun _ _ _ => rfl⟩
theorem Below.grownBy {w w' : World} (h : Below w.heap.size w w') : w.grownBy w' none := ⟨h.os, h.tape, h.output, h.size, fun k hk _ => h.block k hk⟩
theorem Quiet.below {B : Nat} {a w w' : World} (hb : Below B a w) (h : Quiet w w') : Below B a w' := by
  obtain ⟨m, rfl⟩ := h
  exact ⟨hb.os, hb.tape, hb.output, hb.size, hb.block⟩
theorem Quiet.size {w w' : World} (h : Quiet w w') : w'.heap.size = w.heap.size := by
  obtain ⟨m, rfl⟩ := h; rfl

theorem Own.rd {w : World} {lo : Nat} {v : Value} {zs : List Int} (h : Own w lo v zs) : Rd w v zs := by
  rcases h.2 with ⟨rfl, h0⟩ | ⟨g, cap, cur, rfl, _, hg, hn, hm, _, _⟩
  · obtain rfl : zs = [] := List.eq_nil_of_length_eq_zero h0
    exact ⟨none, 0, rfl, Nat.le_refl _, Nat.zero_le _, .inl rfl⟩
  · refine ⟨_, cap, rfl, hn, hm, .inr ⟨g, 0, rfl, fun i hi => ?_⟩⟩
    have := World.ownsRow.cellAt h i (by omega)
    rw [Nat.zero_add, this]
    simp [hi]
theorem Own.kept {w w' : World} {lo : Nat} {v : Value} {zs : List Int} {row : Option Nat} (h : Own w lo v zs) (hg : w.grownBy w' row) (hne : v.ownBlock = none ∨ v.ownBlock ≠ row) : Own w' lo v zs := World.ownsRow.kept h hg hne
theorem Own.keep {w w' : World} {lo : Nat} {v : Value} {zs : List Int} (h : Own w lo v zs) (hg : w.grownBy w' none) : Own w' lo v zs :=
  World.ownsRow.kept h hg (by cases v.ownBlock <;> simp)
theorem Own.mono {w : World} {lo lo' : Nat} {v : Value} {zs : List Int} (h : Own w lo v zs) (hl : lo' ≤ lo) : Own w lo' v zs := by
  refine ⟨h.1, ?_⟩
  rcases h.2 with h2 | ⟨g, cap, cur, hv, hb, r⟩
  · exact .inl h2
  · exact .inr ⟨g, cap, cur, hv, Nat.le_trans hl hb, r⟩
theorem Own.nil (w : World) (lo : Nat) : Own w lo (.slice none 0 0) [] := ⟨by simp, .inl ⟨rfl, rfl⟩⟩
/-- Two slices, the second one made when the first one was there: they share no block. -/
theorem Own.apart {w w' : World} {lo lo' : Nat} {v v' : Value} {zs zs' : List Int} (h : Own w lo v zs) (h' : Own w' lo' v' zs') (hl : w.heap.size ≤ lo') : v.ownBlock = none ∨ v.ownBlock ≠ v'.ownBlock := by
  cases e : v.ownBlock with
  | none => exact .inl rfl
  | some g =>
    refine .inr fun hh => ?_
    have a := World.ownsRow.lt h g e
    have b := World.ownsRow.lt h' g hh.symm
    omega
theorem Own.apart' {w w' : World} {lo lo' : Nat} {v v' : Value} {zs zs' : List Int} (h : Own w lo v zs) (h' : Own w' lo' v' zs') (hl : w.heap.size ≤ lo') : v'.ownBlock = none ∨ v'.ownBlock ≠ v.ownBlock := by
  cases e : v'.ownBlock with
  | none => exact .inl rfl
  | some g =>
    refine .inr fun hh => ?_
    have a := World.ownsRow.lt h g hh.symm
    have b := World.ownsRow.lt h' g e
    omega
theorem Rd.len_le {w : World} {v : Value} {zs : List Int} (h : Rd w v zs) : zs.length ≤ maxLen := by
  obtain ⟨_, _, _, a, b, _⟩ := h; omega

theorem Rd.len {w : World} {a : Option Addr} {n c : Nat} {zs : List Int} (h : Rd w (.slice a n c) zs) : n = zs.length := by
  obtain ⟨_, _, e, _⟩ := h
  simp only [Value.slice.injEq] at e
  exact e.2.1
theorem Rd.below {w w' : World} {v : Value} {zs : List Int} (h : Rd w v zs) (hb : Below w.heap.size w w') : Rd w' v zs := by
  obtain ⟨a, c, e, h1, h2, h3⟩ := h
  refine ⟨a, c, e, h1, h2, h3.imp id ?_⟩
  rintro ⟨b, o, ha, hc⟩
  exact ⟨b, o, ha, fun i hi => (hb.cell (p := ⟨b, o + i, none⟩) (World.block_lt_of_cell? w _ (hc i hi))).trans (hc i hi)⟩
/-- The slice that the frame of the proof hands to the walk. -/
def IsRow (k : IntKind) (w : World) (a : Option Addr) (len cap : Nat) (zs : List Int) : Prop :=
  (a = none ∧ len = 0 ∧ cap = 0 ∧ zs = []) ∨
  ∃ x, a = some x ∧ len ≤ cap ∧ cap ≤ maxLen ∧ zs.length = cap ∧ (∀ i, i < zs.length → w.cell? (x.add i) = some (.int k (zs.getD i 0))) ∧ ∀ n ∈ zs, (Lit.int k n).wf = true
theorem rd_of_row {w : World} {a : Option Addr} {len cap : Nat} {zs : List Int} (h : IsRow .i64 w a len cap zs) : Rd w (.slice a len cap) (zs.take len) := by
  rcases h with ⟨rfl, rfl, rfl, rfl⟩ | ⟨x, rfl, hl, hm, hz, hc, _⟩
  · exact ⟨none, 0, rfl, Nat.le_refl _, Nat.zero_le _, .inl rfl⟩
  · have hlen : (zs.take len).length = len := by simp; omega
    refine ⟨some x, cap, by rw [hlen], by omega, hm, ?_⟩
    by_cases h0 : len = 0
    · left; subst h0; simp
    · right
      obtain ⟨b, off, spot⟩ := x
      have hs : spot = none := by simpa [Addr.add] using World.cell?_spot (hc 0 (by omega))
      subst hs
      refine ⟨b, off, rfl, fun i hi => ?_⟩
      have := hc i (by omega)
      rw [Addr.add_lit] at this
      rw [this]
      simp [show i < len by omega]

/-- The first k of a list, and noughts behind them. -/
def fillTo (zs : List Int) (k : Nat) : List Int := zs.take k ++ List.replicate (zs.length - k) 0
theorem fillTo_zero (zs : List Int) : fillTo zs 0 = List.replicate zs.length 0 := by simp [fillTo]
theorem fillTo_all (zs : List Int) (k : Nat) (h : zs.length ≤ k) : fillTo zs k = zs := by
  simp [fillTo, List.take_of_length_le h, show zs.length - k = 0 by omega]
theorem fillTo_length (zs : List Int) (k : Nat) (h : k ≤ zs.length) : (fillTo zs k).length = zs.length := by simp [fillTo]; omega
theorem fillTo_succ (zs : List Int) (k : Nat) (h : k < zs.length) : (fillTo zs k).set k (zs.getD k 0) = fillTo zs (k + 1) := by
  apply List.ext_getElem?
  intro j
  simp only [fillTo, List.getElem?_set, List.getElem?_append, List.length_take, List.getElem?_take, List.getElem?_replicate, List.length_append, List.length_replicate]
  by_cases e : k = j
  · subst e; simp [h, show min (k+1) zs.length = k + 1 by omega, show min k zs.length = k by omega]; omega
  · simp only [e, if_false, show min (k+1) zs.length = k + 1 by omega, show min k zs.length = k by omega]
    by_cases h2 : j < k
    · simp [h2, show j < k + 1 by omega]
    · simp [h2, show ¬ j < k + 1 by omega, show (j - k < zs.length - k) = (j - (k+1) < zs.length - (k+1)) by simp; omega]
theorem take_succ_eq {zs zs' : List Int} {k : Nat} (h : zs.take k = zs'.take k) (he : zs.getD k 0 = zs'.getD k 0) (h1 : k < zs.length) (h2 : k < zs'.length) : zs.take (k + 1) = zs'.take (k + 1) := by
  rw [List.take_succ_eq_append_getElem h1, List.take_succ_eq_append_getElem h2, h]
  simp [List.getD, h1, h2] at he
  rw [he]
theorem take_snoc' (zs : List Int) (k : Nat) (h : k < zs.length) : zs.take (k + 1) = zs.take k ++ [zs.getD k 0] := by
  rw [List.take_succ_eq_append_getElem h]; simp [List.getD, h]
end Go.Proofs.Ytfbflokkjgbabaa
