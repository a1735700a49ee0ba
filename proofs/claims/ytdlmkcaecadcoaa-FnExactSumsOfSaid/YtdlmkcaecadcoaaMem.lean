/- Slices of integers that a call makes: one that was made whole (Row), one that is appended to (Own). No conditions. -/
import Derived.Test.YtdlmkcaecadcoaaBase
import Derived.StillTailTactics
import Derived.Deep.RegionHeld3
import Derived.Maps.AppendAt
namespace Go.Proofs.Ytdlmkcaecadcoaa
open Go.RowKit

/-- A row of n numbers in block g, from its head on, made by the call. -/
def Row (w : World) (lo g n c : Nat) (zs : List Int) : Prop :=
  zs.length = n ∧ w.ownsRow lo 3 1 (.slice (some ⟨g, 0, none⟩) n c) n (zs.map (Value.int .i64))
theorem Row.get {w : World} {lo g n c : Nat} {zs : List Int} (h : Row w lo g n c zs) (k : Nat) (hk : k < n) : w.cell? ⟨g, k, none⟩ = some (.int .i64 (zs.getD k 0)) := by
  rw [h.2.cellAt k (by omega)]
  have := h.1
  simp [show k < zs.length by omega]
theorem Row.free {w : World} {lo g n c : Nat} {zs : List Int} (h : Row w lo g n c zs) (k : Nat) : w.frozen? ⟨g, k, none⟩ = false := h.2.frozenAt k
theorem Row.set {w : World} {lo g n c : Nat} {zs : List Int} (h : Row w lo g n c zs) (k : Nat) (x : Int) : Row (w.setCell ⟨g, k, none⟩ (.int .i64 x)) lo g n c (zs.set k x) := by
  refine ⟨by simp [h.1], ?_⟩
  have := (h.2.stored k (.int .i64 x)).1
  rwa [← List.map_set] at this
theorem Row.own {w : World} {lo g n c : Nat} {zs : List Int} (h : Row w lo g n c zs) : Own w lo (.slice (some ⟨g, 0, none⟩) n c) zs := by
  unfold Own; rw [h.1]; exact h.2
theorem Row.len {w : World} {lo g n c : Nat} {zs : List Int} (h : Row w lo g n c zs) : zs.length = n := h.1
theorem Row.made {w : World} {lo g n : Nat} (h : w.ownsRow lo 3 1 (.slice (some ⟨g, 0, none⟩) n n) n (madeCells #[Value.int .i64 0] n).toList) : Row w lo g n n (List.replicate n 0) :=
  ⟨by simp, by simpa [toList_madeCells_one] using h⟩
theorem Row.drewN {w : World} {lo g n c : Nat} {zs : List Int} (h : Row w lo g n c zs) (k : Nat) : Row (w.drewN k) lo g n c zs := ⟨h.1, h.2⟩
theorem Row.drew {w : World} {lo g n c : Nat} {zs : List Int} (h : Row w lo g n c zs) : Row w.drew lo g n c zs := ⟨h.1, h.2⟩
theorem Row.keep {w w' : World} {lo g n c : Nat} {zs : List Int} (h : Row w lo g n c zs) (hb : w.grownBy w' none) : Row w' lo g n c zs := ⟨h.1, h.2.kept hb (by simp [Value.ownBlock])⟩
theorem Row.alloc {w : World} {lo g n c : Nat} {zs : List Int} (h : Row w lo g n c zs) (o : Obj) : Row (w.alloc o) lo g n c zs := ⟨h.1, h.2.alloc o⟩
theorem Row.kept {w w' : World} {lo g n c : Nat} {b : Option Nat} {zs : List Int} (h : Row w lo g n c zs) (hb : w.grownBy w' b) (hn : some g ≠ b) : Row w' lo g n c zs := ⟨h.1, h.2.kept hb (.inr hn)⟩
theorem Row.of_own {w : World} {lo g n c : Nat} {zs : List Int} (h : Own w lo (.slice (some ⟨g, 0, none⟩) n c) zs) : Row w lo g n c zs := by
  have hn : n = zs.length := h.rd.len
  exact ⟨hn.symm, by subst hn; exact h⟩
/-- A slice of the call's own, of at least one number: its block. -/
theorem Own.row {w : World} {lo : Nat} {v : Value} {zs : List Int} (h : Own w lo v zs) (hl : 0 < zs.length) : ∃ g c, v = .slice (some ⟨g, 0, none⟩) zs.length c ∧ lo ≤ g ∧ g < w.heap.size ∧ Row w lo g zs.length c zs := by
  rcases h.2 with ⟨_, h0⟩ | ⟨g, c, cur, rfl, hg, _⟩
  · omega
  · exact ⟨g, c, rfl, hg, (World.ownsRow.lt h g rfl).2, rfl, h⟩
theorem Own.drewN {w : World} {lo : Nat} {v : Value} {zs : List Int} (h : Own w lo v zs) (k : Nat) : Own (w.drewN k) lo v zs := h
theorem Below.drewN' {B : Nat} {w w' : World} (h : Below B w w') (k : Nat) : Below B w (w'.drewN k) := ⟨h.os, h.tape, h.output, h.size, h.block⟩

/-- make([]int, n). -/
theorem wpList_mk {w : World} {ops : Array Oper} {rest : List Oper} {o : Oper} {a : Act} {Q : Exit → Act → World → Prop} (hgd : o.guard = none) (l c : Operand) (ho : o.op = Op.makeSlice 22 l c)
    (n : Nat) (hl : a.eval l = .int .i64 (n : Int)) (hc : a.eval c = .int .i64 (n : Int)) (hn : n ≤ 1048576)
    (h : ∀ w', Row w' w.heap.size w.heap.size n n (List.replicate n 0) → w.grownBy w' none → wpList Try.prog ops Q rest (a.put o.dst (.slice (some ⟨w.heap.size, 0, none⟩) n n)) w') :
    wpList Try.prog ops Q (o :: rest) a w := by
  obtain ⟨i0, hi, hz0, hz1, hz2⟩ := info_parts Try.infoInt
  refine wpList_make_full w hgd l c 22 ho w.heap.size 3 i0 (.int .i64 0) 1 Try.underlying22 hi hz0 hz1 .i64 .i64 n n n hl hc rfl rfl (by rw [hz2]; omega) (by unfold maxLen; omega) (Nat.le_refl _) ?_
  intro w' h1 h2
  exact h w' (Row.made (by simpa [Value.cells] using h1)) h2

/-- append(out, x): out the call's own, x laid in a new block of one cell. -/
theorem wpList_app {w : World} {ops : Array Oper} {rest : List Oper} {o : Oper} {a : Act} {Q : Exit → Act → World → Prop} (hgd : o.guard = none) (s x : Operand)
    (ho : o.op = .call { callee := .builtin .append, args := #[s, x], argTypes := #[22, 22] })
    (lo : Nat) (v : Value) (zs : List Int) (y : Int) (hs : a.eval s = v) (hown : Own w lo v zs)
    (hx : a.eval x = .slice (some ⟨w.heap.size, 0, none⟩) 1 1) (hlen : zs.length ≤ 1048576) (hlo : lo ≤ w.heap.size)
    (h : ∀ v' w', Own w' lo v' (zs ++ [y]) → (w.alloc (.cells #[.int .i64 y] 3)).grownBy w' v.ownBlock → wpList Try.prog ops Q rest (a.put o.dst v') w') :
    wpList Try.prog ops Q (o :: rest) a (w.alloc (.cells #[.int .i64 y] 3)) := by
  obtain ⟨i0, hi, hz0, hz1, hz2⟩ := info_parts Try.infoInt
  refine wpList_append_own _ hgd s x 22 ho lo 3 i0 (.int .i64 0) 1 8 Try.underlying22 hi hz0 hz1 hz2 rfl (by decide) v zs.length _ hs (World.ownsRow.alloc hown _) ⟨w.heap.size, 0, none⟩ 1 1 [.int .i64 y] hx rfl ?_ ?_ ?_ ?_ ?_ ?_
  · intro j u hj
    match j, hj with
    | 0, hj => simp at hj; subst hj; simp [Addr.add]
  · intro u hu; simp at hu; subst hu; rfl
  · unfold maxLen; omega
  · omega
  · simp; omega
  · intro v' w' h1 h2 _
    exact h v' w' (by unfold Own; simpa using h1) h2
theorem ret_own {w' : World} {lo : Nat} {v : Value} {zs zs' : List Int} {P : Prop} (h : Own w' lo v zs) (e : zs' = zs) (p : P) : ∃ r, Ending.returned v = .returned r ∧ Own w' lo r zs' ∧ P := ⟨v, rfl, e ▸ h, p⟩
/-- append(out, x) in a region that draws its order. -/
theorem step_app {w : World} {ops : Array Oper} {o : Oper} {a : Act} {K : Act → World → Prop} {Q : Exit → Act → World → Prop} {E : Prop} (hgd : o.guard = none) (s x : Operand)
    (ho : o.op = .call { callee := .builtin .append, args := #[s, x], argTypes := #[22, 22] })
    (lo b : Nat) (v : Value) (zs : List Int) (y : Int) (hs : a.eval s = v) (hown : Own w lo v zs)
    (hx : a.eval x = .slice (some ⟨b, 0, none⟩) 1 1) (hc : w.cell? ⟨b, 0, none⟩ = some (.int .i64 y)) (hlen : zs.length ≤ 1048576) (hlo : lo ≤ w.heap.size)
    (h : ∀ v' w', Own w' lo v' (zs ++ [y]) → w.grownBy w' v.ownBlock → K (a.put o.dst v') w') :
    if Region.wanted o (yielded ops a.tmps) = true then Oper.wp Try.prog o a w K Q else E := by
  obtain ⟨i0, hi, hz0, hz1, hz2⟩ := info_parts Try.infoInt
  rw [if_pos (by simp [Region.wanted, hgd])]
  refine wp_append_own w s x 22 ho lo 3 i0 (.int .i64 0) 1 8 Try.underlying22 hi hz0 hz1 hz2 rfl (by decide) v zs.length _ hs hown ⟨b, 0, none⟩ 1 1 [.int .i64 y] hx rfl ?_ ?_ ?_ ?_ hlo ?_
  · intro j u hj
    match j, hj with
    | 0, hj => simp at hj; subst hj; simpa [Addr.add] using hc
  · intro u hu; simp at hu; subst hu; rfl
  · unfold maxLen; omega
  · omega
  · intro v' w' h1 h2 _
    exact h v' w' (by unfold Own; simpa using h1) h2
/-- append(out, x), and where the new slice lies. -/
theorem wp_appAt {w : World} {o : Oper} {a : Act} {K : Act → World → Prop} {Q : Exit → Act → World → Prop} (s x : Operand)
    (ho : o.op = .call { callee := .builtin .append, args := #[s, x], argTypes := #[22, 22] })
    (lo b : Nat) (v : Value) (zs : List Int) (y : Int) (hs : a.eval s = v) (hown : Own w lo v zs)
    (hx : a.eval x = .slice (some ⟨b, 0, none⟩) 1 1) (hc : w.cell? ⟨b, 0, none⟩ = some (.int .i64 y)) (hlen : zs.length ≤ 1048576) (hlo : lo ≤ w.heap.size)
    (h : ∀ v' w', Own w' lo v' (zs ++ [y]) → w.grownBy w' v.ownBlock → (v'.ownBlock = v.ownBlock ∨ v'.ownBlock = some w.heap.size) → K (a.put o.dst v') w') : o.wp Try.prog a w K Q := by
  obtain ⟨i0, hi, hz0, hz1, hz2⟩ := info_parts Try.infoInt
  obtain ⟨v', w', hrun, h2, h3, _, h5⟩ := run_append_own_at (P := Try.prog) w lo 22 o.type 3 i0 (.int .i64 0) 1 8 Try.underlying22 hi hz0 hz1 hz2 rfl (by decide) v zs.length _ hown ⟨b, 0, none⟩ 1 1 [.int .i64 y] rfl
    (by intro j u hj; match j, hj with | 0, hj => simp at hj; subst hj; simpa [Addr.add] using hc) (by intro u hu; simp at hu; subst hu; rfl) (by unfold maxLen; omega) (by omega) hlo
  unfold Oper.wp execOp
  simp only [ho, resolve, invoke, builtin, Sem.run_bind, Sem.run_pure, Result.andThen_ok, List.map_toArray, List.map_cons, List.map_nil, hs, hx, hrun]
  exact h v' w' (by unfold Own; simpa using h2) h3 h5
theorem wpList_appAt {w : World} {ops : Array Oper} {rest : List Oper} {o : Oper} {a : Act} {Q : Exit → Act → World → Prop} (hgd : o.guard = none) (s x : Operand)
    (ho : o.op = .call { callee := .builtin .append, args := #[s, x], argTypes := #[22, 22] })
    (lo b : Nat) (v : Value) (zs : List Int) (y : Int) (hs : a.eval s = v) (hown : Own w lo v zs)
    (hx : a.eval x = .slice (some ⟨b, 0, none⟩) 1 1) (hc : w.cell? ⟨b, 0, none⟩ = some (.int .i64 y)) (hlen : zs.length ≤ 1048576) (hlo : lo ≤ w.heap.size)
    (h : ∀ v' w', Own w' lo v' (zs ++ [y]) → w.grownBy w' v.ownBlock → (v'.ownBlock = v.ownBlock ∨ v'.ownBlock = some w.heap.size) → wpList Try.prog ops Q rest (a.put o.dst v') w') : wpList Try.prog ops Q (o :: rest) a w :=
  wpList_plain hgd fun _ hK => wp_appAt s x ho lo b v zs y hs hown hx hc hlen hlo fun v' w' h1 h2 h3 => hK _ _ (h v' w' h1 h2 h3)
theorem step_appAt {w : World} {ops : Array Oper} {o : Oper} {a : Act} {K : Act → World → Prop} {Q : Exit → Act → World → Prop} {E : Prop} (hgd : o.guard = none) (s x : Operand)
    (ho : o.op = .call { callee := .builtin .append, args := #[s, x], argTypes := #[22, 22] })
    (lo b : Nat) (v : Value) (zs : List Int) (y : Int) (hs : a.eval s = v) (hown : Own w lo v zs)
    (hx : a.eval x = .slice (some ⟨b, 0, none⟩) 1 1) (hc : w.cell? ⟨b, 0, none⟩ = some (.int .i64 y)) (hlen : zs.length ≤ 1048576) (hlo : lo ≤ w.heap.size)
    (h : ∀ v' w', Own w' lo v' (zs ++ [y]) → w.grownBy w' v.ownBlock → (v'.ownBlock = v.ownBlock ∨ v'.ownBlock = some w.heap.size) → K (a.put o.dst v') w') :
    if Region.wanted o (yielded ops a.tmps) = true then Oper.wp Try.prog o a w K Q else E := by
  rw [if_pos (by simp [Region.wanted, hgd])]
  exact wp_appAt s x ho lo b v zs y hs hown hx hc hlen hlo h
/-- Two slices of the call's own that share no block. -/
def Ap (v u : Value) : Prop := ∀ g, v.ownBlock = some g → u.ownBlock ≠ some g
theorem Ap.symm {v u : Value} (h : Ap v u) : Ap u v := fun g h1 h2 => h g h2 h1
theorem Ap.or {v u : Value} (h : Ap v u) : v.ownBlock = none ∨ v.ownBlock ≠ u.ownBlock := by
  cases e : v.ownBlock with
  | none => exact .inl rfl
  | some g => exact .inr fun hh => h g e hh.symm
/-- What was apart stays apart when the one has been appended to. -/
theorem Ap.app {w : World} {lo s : Nat} {v v' u : Value} {ys : List Int} (h : Ap v u) (hu : Own w lo u ys) (hv : v'.ownBlock = v.ownBlock ∨ v'.ownBlock = some s) (hs : w.heap.size ≤ s) : Ap v' u := by
  intro g h1 h2
  rcases hv with hv | hv
  · exact h g (hv ▸ h1) h2
  · have := (World.ownsRow.lt hu g h2).2
    rw [hv] at h1
    simp only [Option.some.injEq] at h1
    omega
/-- A cell of old memory behind an append to the call's own slice. -/
theorem cell_app {w w' : World} {lo b i : Nat} {v : Value} {zs : List Int} (hg : w.grownBy w' v.ownBlock) (ho : Own w lo v zs) (hb : b < lo) (hlo : lo ≤ w.heap.size) : w'.cell? ⟨b, i, none⟩ = w.cell? ⟨b, i, none⟩ :=
  World.cell?_of_block (w := w) (hg.block b (by omega) (fun e => by have := (World.ownsRow.lt ho b e.symm).1; omega))

/-- append(out, src...): out the call's own, src whatever can be read. -/
theorem wp_cat {w : World} {o : Oper} {a : Act} {K : Act → World → Prop} {Q : Exit → Act → World → Prop} (s x : Operand)
    (ho : o.op = .call { callee := .builtin .append, args := #[s, x], argTypes := #[22, 22] })
    (lo : Nat) (v u : Value) (xs ys : List Int) (hs : a.eval s = v) (hown : Own w lo v xs) (hx : a.eval x = u) (hrd : Rd w u ys) (hlen : xs.length + ys.length ≤ 1048576) (hlo : lo ≤ w.heap.size)
    (h : ∀ v' w', Own w' lo v' (xs ++ ys) → w.grownBy w' v.ownBlock → K (a.put o.dst v') w') : o.wp Try.prog a w K Q := by
  obtain ⟨i0, hi, hz0, hz1, hz2⟩ := info_parts Try.infoInt
  obtain ⟨ad, cap, rfl, h1, h2, h3⟩ := hrd
  cases ad with
  | none =>
    have hy : ys = [] := by
      rcases h3 with h3 | ⟨b, off, e, _⟩
      · exact h3
      · simp at e
    subst hy
    have hrun : (Builtin.append_ #[22, 22] o.type #[v, .slice none 0 cap]).run Try.prog w = .ok v w := by
      rcases hown.2 with ⟨rfl, _⟩ | ⟨g, c, cur, rfl, _, _, hnc, _⟩
      · simp [Builtin.append_, run_underlying Try.underlying22, sizeOf, typeInfo, hi, Builtin.lenOf, Builtin.firstCells]
      · simp [Builtin.append_, run_underlying Try.underlying22, sizeOf, typeInfo, hi, Builtin.lenOf, Builtin.firstCells, hnc, storeCells]
    unfold Oper.wp
    simp [execOp, ho, resolve, invoke, builtin, hs, hx, hrun, Result.andThen]
    exact h v w (by simpa using hown) (World.grownBy.refl _ _)
  | some ad =>
    refine wp_append_own w s x 22 ho lo 3 i0 (.int .i64 0) 1 8 Try.underlying22 hi hz0 hz1 hz2 rfl (by decide) v xs.length _ hs hown ad ys.length cap (ys.map (Value.int .i64)) hx (by simp) ?_ ?_ ?_ ?_ hlo ?_
    · intro j y hj
      rcases h3 with rfl | ⟨b, off, e, hc⟩
      · simp at hj
      · simp only [Option.some.injEq] at e
        subst e
        rw [Addr.add_lit]
        have hj' : j < ys.length := by
          have := (List.getElem?_eq_some_iff.1 hj).1
          simpa using this
        rw [hc j hj', ← hj]
        simp [hj']
    · intro y hy
      obtain ⟨z, _, rfl⟩ := List.mem_map.1 hy
      rfl
    · unfold maxLen; omega
    · omega
    · intro v' w' h1 h2 _
      exact h v' w' (by unfold Own; simpa using h1) h2
theorem wpList_cat {w : World} {ops : Array Oper} {rest : List Oper} {o : Oper} {a : Act} {Q : Exit → Act → World → Prop} (hgd : o.guard = none) (s x : Operand)
    (ho : o.op = .call { callee := .builtin .append, args := #[s, x], argTypes := #[22, 22] })
    (lo : Nat) (v u : Value) (xs ys : List Int) (hs : a.eval s = v) (hown : Own w lo v xs) (hx : a.eval x = u) (hrd : Rd w u ys) (hlen : xs.length + ys.length ≤ 1048576) (hlo : lo ≤ w.heap.size)
    (h : ∀ v' w', Own w' lo v' (xs ++ ys) → w.grownBy w' v.ownBlock → wpList Try.prog ops Q rest (a.put o.dst v') w') :
    wpList Try.prog ops Q (o :: rest) a w :=
  wpList_plain hgd fun _ hK => wp_cat s x ho lo v u xs ys hs hown hx hrd hlen hlo fun v' w' h1 h2 => hK _ _ (h v' w' h1 h2)
theorem step_cat {w : World} {ops : Array Oper} {o : Oper} {a : Act} {K : Act → World → Prop} {Q : Exit → Act → World → Prop} {E : Prop} (hgd : o.guard = none) (s x : Operand)
    (ho : o.op = .call { callee := .builtin .append, args := #[s, x], argTypes := #[22, 22] })
    (lo : Nat) (v u : Value) (xs ys : List Int) (hs : a.eval s = v) (hown : Own w lo v xs) (hx : a.eval x = u) (hrd : Rd w u ys) (hlen : xs.length + ys.length ≤ 1048576) (hlo : lo ≤ w.heap.size)
    (h : ∀ v' w', Own w' lo v' (xs ++ ys) → w.grownBy w' v.ownBlock → K (a.put o.dst v') w') :
    if Region.wanted o (yielded ops a.tmps) = true then Oper.wp Try.prog o a w K Q else E := by
  rw [if_pos (by simp [Region.wanted, hgd])]
  exact wp_cat s x ho lo v u xs ys hs hown hx hrd hlen hlo h

/-- '[]int{}'. -/
theorem Own.lit0 (w : World) {lo : Nat} (h : lo ≤ w.heap.size) : Own (w.alloc (.cells #[] 3)) lo (.slice (some ⟨w.heap.size, 0, none⟩) 0 0) [] :=
  World.ownsRow_lit w #[] 0 h (Nat.zero_le _) rfl
theorem Own.lit0s (w : World) {lo s : Nat} (hs : w.heap.size = s) (h : lo ≤ s) : Own (w.alloc (.cells #[] 3)) lo (.slice (some ⟨s, 0, none⟩) 0 0) [] := by
  subst hs; exact Own.lit0 w h
/-- '[]int{x}'. -/
theorem Own.lit1 (w : World) {lo : Nat} (h : lo ≤ w.heap.size) (x : Int) : Own (w.alloc (.cells #[.int .i64 x] 3)) lo (.slice (some ⟨w.heap.size, 0, none⟩) 1 1) [x] :=
  World.ownsRow_lit w #[.int .i64 x] 1 h (by unfold maxLen; omega) rfl
theorem Own.lit {w : World} {lo : Nat} (h : lo ≤ w.heap.size) (xs : List Int) (hl : xs.length ≤ maxLen) : Own (w.alloc (.cells (xs.map (Value.int .i64)).toArray 3)) lo (.slice (some ⟨w.heap.size, 0, none⟩) xs.length xs.length) xs := by
  unfold Own
  have := World.ownsRow_lit (e := 3) (size := 1) (base := lo) w (xs.map (Value.int .i64)).toArray xs.length h hl (by simp)
  simpa using this
theorem below_app {B : Nat} {w wr w1 : World} {v : Value} {zs : List Int} {o : Obj} (h : Below B w wr) (ho : Own wr B v zs) (hB : B ≤ wr.heap.size) (hg : (wr.alloc o).grownBy w1 v.ownBlock) : Below B w w1 :=
  (h.alloc hB o).grown hg (by simp; omega) (fun k hk => (World.ownsRow.lt ho k hk).1)
theorem Own.drew {w : World} {lo : Nat} {v : Value} {zs : List Int} (h : Own w lo v zs) : Own w.drew lo v zs := h
theorem Rd.own {w : World} {lo : Nat} {v : Value} {zs : List Int} (h : Own w lo v zs) : Rd w v zs := h.rd
theorem Rd.alloc {w : World} {v : Value} {zs : List Int} (h : Rd w v zs) (o : Obj) : Rd (w.alloc o) v zs := h.below ((Below.refl _ _).alloc (Nat.le_refl _) o)
theorem Own.alloc' {w : World} {lo : Nat} {v : Value} {zs : List Int} (h : Own w lo v zs) (o : Obj) : Own (w.alloc o) lo v zs := World.ownsRow.alloc h o
theorem below_app' {B : Nat} {w wr w1 : World} {v : Value} {zs : List Int} {o : Obj} (h : Below B w wr) (ho : Own wr B v zs) (hB : B ≤ wr.heap.size) (hg : (wr.alloc o).drew.grownBy w1 v.ownBlock) : Below B w w1 :=
  (h.alloc hB o).drew.grown hg (by simp; omega) (fun k hk => (World.ownsRow.lt ho k hk).1)
theorem below_cat {B : Nat} {w wr w1 : World} {v : Value} {zs : List Int} (h : Below B w wr) (ho : Own wr B v zs) (hB : B ≤ wr.heap.size) (hg : wr.grownBy w1 v.ownBlock) : Below B w w1 :=
  h.grown hg hB (fun k hk => (World.ownsRow.lt ho k hk).1)
/-- A slice of the call's own, of n > 0 numbers, its shape known: it begins at the head of a block. -/
theorem Own.cut {w : World} {lo n c : Nat} {a : Option Addr} {zs : List Int} (h : Own w lo (.slice a n c) zs) (hn : 0 < n) : ∃ g, a = some ⟨g, 0, none⟩ ∧ lo ≤ g ∧ g < w.heap.size ∧ Row w lo g n c zs := by
  have hl : n = zs.length := h.rd.len
  obtain ⟨g, c', hv, h1, h2, h3⟩ := h.row (by omega)
  simp only [Value.slice.injEq] at hv
  obtain ⟨rfl, _, rfl⟩ := hv
  exact ⟨g, rfl, h1, h2, hl ▸ h3⟩
end Go.Proofs.Ytdlmkcaecadcoaa
