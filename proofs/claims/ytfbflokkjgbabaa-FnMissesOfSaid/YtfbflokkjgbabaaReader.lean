/- The reader of the statements' own draws: newReader makes one, pick gives a number in 0..n-1, one a number of a list. Conditions: fewer than 100000 draws. -/
import Derived.Test.YtfbflokkjgbabaaMem
import Derived.Test.YtfbflokkjgbabaaPow
namespace Go.Proofs.Ytfbflokkjgbabaa
open Go.RowKit
theorem Own.lits {w : World} {lo s : Nat} (hs : w.heap.size = s) (h : lo ≤ s) (xs : List Int) (hl : xs.length ≤ maxLen) : Own (w.alloc (.cells (xs.map (Value.int .i64)).toArray 3)) lo (.slice (some ⟨s, 0, none⟩) xs.length xs.length) xs := by
  subst hs; exact Own.lit h xs hl
/-- A slice of bytes that can be read. -/
def Rdb (w : World) (v : Value) (bs : List Int) : Prop :=
  ∃ a cap, v = .slice a bs.length cap ∧ bs.length ≤ cap ∧ cap ≤ maxLen ∧ (bs = [] ∨ ∃ b off, a = some ⟨b, off, none⟩ ∧ ∀ i, i < bs.length → w.cell? ⟨b, off + i, none⟩ = some (.int .u8 (bs.getD i 0))) ∧ ∀ z ∈ bs, 0 ≤ z ∧ z ≤ 255
theorem Rdb.len {w : World} {a : Option Addr} {n c : Nat} {zs : List Int} (h : Rdb w (.slice a n c) zs) : n = zs.length := by
  obtain ⟨_, _, e, _⟩ := h
  simp only [Value.slice.injEq] at e
  exact e.2.1
theorem rdb_of_row {w : World} {a : Option Addr} {len cap : Nat} {zs : List Int} (h : IsRow .u8 w a len cap zs) : Rdb w (.slice a len cap) (zs.take len) := by
  rcases h with ⟨rfl, rfl, rfl, rfl⟩ | ⟨x, rfl, hl, hm, hz, hc, hw⟩
  · exact ⟨none, 0, rfl, Nat.le_refl _, Nat.zero_le _, .inl rfl, by simp⟩
  · have hlen : (zs.take len).length = len := by simp; omega
    refine ⟨some x, cap, by rw [hlen], by omega, hm, ?_, ?_⟩
    · by_cases h0 : len = 0
      · left; subst h0; simp
      · right
        obtain ⟨b, off, spot⟩ := x
        have hs : spot = none := by simpa [Addr.add] using World.cell?_spot (hc 0 (by omega))
        subst hs
        refine ⟨b, off, rfl, fun i hi => ?_⟩
        have := hc i (by omega)
        rw [Addr.add_lit] at this
        rw [this]
        simp [show i < len by omega]
    · intro z hz
      have h := hw z (List.mem_of_mem_take hz)
      have hmin : IntKind.u8.min = 0 := rfl
      have hmax : IntKind.u8.max = 255 := rfl
      simp only [Lit.wf, Bool.and_eq_true, decide_eq_true_eq] at h
      omega
/-- A reader in block R that has drawn at most m numbers. -/
def Rdr (w : World) (R m : Nat) : Prop :=
  ∃ (a : Option Addr) (len cap p : Nat) (bs : List Int), w.heap[R]? = some (.cells #[.slice a len cap, .int .i64 p] 47 (0, 0)) ∧ p ≤ m ∧ len ≤ 2000 ∧
    (len = 0 ∨ ∃ b o, a = some ⟨b, o, none⟩ ∧ b < R ∧ (∀ i, i < len → w.cell? ⟨b, o + i, none⟩ = some (.int .u8 (bs.getD i 0))) ∧ ∀ i, 0 ≤ bs.getD i 0 ∧ bs.getD i 0 ≤ 255)
/-- The state while the draws are made: w0 is where they began. -/
def Rs (w0 w : World) (R m : Nat) : Prop := Rdr w R m ∧ Below w0.heap.size w0 w ∧ w0.heap.size ≤ R ∧ R < w.heap.size
theorem Rdr.old {w w' : World} {R m : Nat} (h : Rdr w R m) (hb : ∀ k, k ≤ R → w'.heap[k]? = w.heap[k]?) : Rdr w' R m := by
  obtain ⟨a, len, cap, p, bs, h1, h2, h3, h4⟩ := h
  refine ⟨a, len, cap, p, bs, (hb R (Nat.le_refl _)).trans h1, h2, h3, h4.imp id ?_⟩
  rintro ⟨b, o, ha, hbR, hc, hd⟩
  exact ⟨b, o, ha, hbR, fun i hi => (World.cell?_of_block (w := w) (hb b (by omega))).trans (hc i hi), hd⟩
theorem Rs.grown {w0 w w' : World} {R m : Nat} {row : Option Nat} (h : Rs w0 w R m) (g : w.grownBy w' row) (hr : ∀ k, row = some k → R < k) : Rs w0 w' R m := by
  obtain ⟨h1, h2, h3, h4⟩ := h
  refine ⟨h1.old fun k hk => g.block k (by omega) (fun e => by have := hr k e.symm; omega), h2.grown g h2.size (fun k hk => by have := hr k hk; omega), h3, Nat.lt_of_lt_of_le h4 g.size⟩
theorem Rs.alloc {w0 w : World} {R m : Nat} (h : Rs w0 w R m) (o : Obj) : Rs w0 (w.alloc o) R m := by
  obtain ⟨h1, h2, h3, h4⟩ := h
  refine ⟨h1.old fun k hk => ?_, h2.alloc h2.size o, h3, by simp; omega⟩
  simp only [World.alloc]
  rw [Array.getElem?_push]; rw [if_neg (by omega)]
theorem Rs.drewN {w0 w : World} {R m : Nat} (h : Rs w0 w R m) (k : Nat) : Rs w0 (w.drewN k) R m := h.grown (row := none) (Quiet.grown ⟨k, rfl⟩) (by simp)
theorem Rs.drew {w0 w : World} {R m : Nat} (h : Rs w0 w R m) : Rs w0 w.drew R m := h.drewN 1
theorem Rs.mono {w0 w : World} {R m m' : Nat} (h : Rs w0 w R m) (hm : m ≤ m') : Rs w0 w R m' := by
  obtain ⟨⟨a, len, cap, p, bs, h1, h2, h3⟩, h4⟩ := h
  exact ⟨⟨a, len, cap, p, bs, h1, by omega, h3⟩, h4⟩
theorem rs_step {w : World} {R : Nat} {a b v : Value} {T : Nat} (h : w.heap[R]? = some (.cells #[a, b] T (0, 0))) : (w.setCell ⟨R, 1, none⟩ v).heap[R]? = some (.cells #[a, v] T (0, 0)) := by
  simp [World.setCell, Array.getElem?_modify, h]
theorem grown_set {w : World} {R : Nat} (i : Nat) (v : Value) : w.grownBy (w.setCell ⟨R, i, none⟩ v) (some R) := by
  refine ⟨rfl, rfl, rfl, by simp [World.setCell], fun k hk hne => ?_⟩
  simp only [World.setCell, Array.getElem?_modify]
  rw [if_neg (fun e => hne (by rw [e]))]

theorem xor30 (a b : Nat) (ha : a < 1073741824) (hb : b < 1073741824) : bits .xor .i64 (a : Int) (b : Int) = ((a ^^^ b : Nat) : Int) := by
  have hx : a ^^^ b < 2 ^ 30 := Nat.xor_lt_two_pow (by omega) (by omega)
  have h1 : a % 2 ^ IntKind.i64.bits = a := Nat.mod_eq_of_lt (Nat.lt_of_lt_of_le (show a < 2 ^ 30 by omega) (by decide))
  have h2 : b % 2 ^ IntKind.i64.bits = b := Nat.mod_eq_of_lt (Nat.lt_of_lt_of_le (show b < 2 ^ 30 by omega) (by decide))
  simp only [bits, BitVec.ofInt_natCast, BitVec.toNat_xor, BitVec.toNat_ofNat, h1, h2]
  rw [IntKind.wrap_i64]
  omega
theorem mix_end (X n : Int) (h0 : 0 ≤ X) (h1 : X < 1073741824) (hn : 1 ≤ n) : 0 ≤ (bits .xor .i64 X (wrap64 (X.tdiv 64))).tmod n ∧ (bits .xor .i64 X (wrap64 (X.tdiv 64))).tmod n < n := by
  obtain ⟨x, rfl⟩ := Int.eq_ofNat_of_zero_le h0
  have h2 : wrap64 ((x : Int).tdiv 64) = ((x / 64 : Nat) : Int) := by
    rw [show (x : Int).tdiv 64 = ((x / 64 : Nat) : Int) from rfl]
    unfold wrap64; omega
  rw [h2, xor30 x (x / 64) (by omega) (by omega)]
  exact ⟨Int.tmod_nonneg _ (Int.natCast_nonneg _), Int.tmod_lt_of_pos _ (by omega)⟩
theorem mix_bd (y z : Int) (p len : Nat) (hy0 : 0 ≤ y) (hy1 : y ≤ 255) (hz0 : 0 ≤ z) (hz1 : z ≤ 255) (hp : p ≤ 100000) :
    0 ≤ wrap64 (y * 131 + z * 1117 + (p : Int) * 29 + wrap64 (wrap64 ((p : Int) / (len : Int)) * 53)) ∧ wrap64 (y * 131 + z * 1117 + (p : Int) * 29 + wrap64 (wrap64 ((p : Int) / (len : Int)) * 53)) < 1073741824 := by
  have d1 : p / len ≤ p := Nat.div_le_self _ _
  rw [show (p : Int) / (len : Int) = ((p / len : Nat) : Int) from rfl]
  obtain ⟨q, hq⟩ : ∃ q, q = p / len := ⟨_, rfl⟩
  rw [← hq] at d1 ⊢
  have e1 : wrap64 (q : Int) = q := by unfold wrap64; omega
  rw [e1]
  have e2 : wrap64 ((q : Int) * 53) = (q : Int) * 53 := by unfold wrap64; omega
  rw [e2]
  have e3 : wrap64 (y * 131 + z * 1117 + (p : Int) * 29 + (q : Int) * 53) = y * 131 + z * 1117 + (p : Int) * 29 + (q : Int) * 53 := by unfold wrap64; omega
  rw [e3]
  omega
theorem pick_zero (R len cap p : Nat) (a : Option Addr) (n : Int) (w : World) (_hp : p ≤ 100000) (hn : n < 1)
    (_c0 : w.cell? ⟨R, 0, none⟩ = some (.slice a len cap)) (c1 : w.cell? ⟨R, 1, none⟩ = some (.int .i64 p)) (f1 : w.frozen? ⟨R, 1, none⟩ = false) :
    Calls Try.prog 35 #[.pointer (some ⟨R, 0, none⟩), .int .i64 n] w fun e w' => e = .returned (.int .i64 0) ∧ w' = w.setCell ⟨R, 1, none⟩ (.int .i64 ((p : Int) + 1)) := by
  go_enter Try.func35, Try.ntmps35
  go_wp2
  go_ret
  exact ⟨rfl, rfl⟩
theorem pick_none (R cap p : Nat) (a : Option Addr) (n : Int) (w : World) (_hp : p ≤ 100000) (hn : 1 ≤ n)
    (c0 : w.cell? ⟨R, 0, none⟩ = some (.slice a 0 cap)) (c1 : w.cell? ⟨R, 1, none⟩ = some (.int .i64 p)) (f1 : w.frozen? ⟨R, 1, none⟩ = false) :
    Calls Try.prog 35 #[.pointer (some ⟨R, 0, none⟩), .int .i64 n] w fun e w' => e = .returned (.int .i64 0) ∧ w' = w.setCell ⟨R, 1, none⟩ (.int .i64 ((p : Int) + 1)) := by
  go_enter Try.func35, Try.ntmps35
  go_wp2
  go_ret
  exact ⟨rfl, rfl⟩
theorem pick_byte (R len cap p b o : Nat) (n y : Int) (w : World) (hl : len ≤ 2000) (hn : 1 ≤ n) (hp : p < len) (hb : b < R) (hy0 : 0 ≤ y) (hy1 : y ≤ 255)
    (c0 : w.cell? ⟨R, 0, none⟩ = some (.slice (some ⟨b, o, none⟩) len cap)) (c1 : w.cell? ⟨R, 1, none⟩ = some (.int .i64 p)) (f1 : w.frozen? ⟨R, 1, none⟩ = false)
    (cy : w.cell? ⟨b, o + p, none⟩ = some (.int .u8 y)) :
    Calls Try.prog 35 #[.pointer (some ⟨R, 0, none⟩), .int .i64 n] w fun e w' => e = .returned (.int .i64 (y % n)) ∧ w' = w.setCell ⟨R, 1, none⟩ (.int .i64 ((p : Int) + 1)) := by
  have hne : ((len : Int) == 0) = false := by simp; omega
  go_enter Try.func35, Try.ntmps35
  go_wp2
  go_ret
  exact ⟨rfl, rfl⟩
set_option maxHeartbeats 1000000 in
theorem pick_mix (R len cap p b o : Nat) (n y z : Int) (w : World) (hl : len ≤ 2000) (hl0 : 1 ≤ len) (hn : 1 ≤ n) (hp : len ≤ p) (hp1 : p ≤ 100000) (hb : b < R) (hy0 : 0 ≤ y) (hy1 : y ≤ 255) (hz0 : 0 ≤ z) (hz1 : z ≤ 255)
    (c0 : w.cell? ⟨R, 0, none⟩ = some (.slice (some ⟨b, o, none⟩) len cap)) (c1 : w.cell? ⟨R, 1, none⟩ = some (.int .i64 p)) (f1 : w.frozen? ⟨R, 1, none⟩ = false)
    (cy : w.cell? ⟨b, o + p % len, none⟩ = some (.int .u8 y)) (cz : w.cell? ⟨b, o + (p * 7 + 3) % len, none⟩ = some (.int .u8 z)) :
    Calls Try.prog 35 #[.pointer (some ⟨R, 0, none⟩), .int .i64 n] w fun e w' => ∃ k : Int, e = .returned (.int .i64 k) ∧ 0 ≤ k ∧ k < n ∧ ∃ m, w' = (w.setCell ⟨R, 1, none⟩ (.int .i64 ((p : Int) + 1))).drewN m := by
  have hne : ((len : Int) == 0) = false := by simp; omega
  have m1 : p % len < len := Nat.mod_lt _ (by omega)
  have m2 : (p * 7 + 3) % len < len := Nat.mod_lt _ (by omega)
  have d1 : p / len ≤ p := Nat.div_le_self _ _
  have i1 : 0 ≤ ((p : Int) * 7 + 3) % (len : Int) := Int.emod_nonneg _ (by omega)
  have i2 : ((p : Int) * 7 + 3) % (len : Int) < (len : Int) := Int.emod_lt_of_pos _ (by omega)
  have z3 : ¬ len = 0 := by omega
  have z4 : ¬ (len : Int) = 0 := by omega
  go_enter Try.func35, Try.ntmps35
  go_wp2
  go_quiet (fail)
  go_wp2
  go_ret
  have b := mix_bd y z p len hy0 hy1 hz0 hz1 hp1
  have e := mix_end _ n b.1 b.2 hn
  exact ⟨_, rfl, e.1, e.2, nq, rfl⟩
/-- A draw: a number in 0..n-1; the reader has turned, nothing else. -/
theorem pick_any (w0 w : World) (R m : Nat) (n : Int) (h : Rs w0 w R m) (hm : m ≤ 100000) (hn : 1 ≤ n) :
    Calls Try.prog 35 #[.pointer (some ⟨R, 0, none⟩), .int .i64 n] w fun e w' => ∃ k : Int, e = .returned (.int .i64 k) ∧ 0 ≤ k ∧ k < n ∧ Rs w0 w' R (m + 1) ∧ w.grownBy w' (some R) := by
  obtain ⟨⟨a, len, cap, p, bs, h1, h2, h3, h4⟩, hB, hl, hs⟩ := h
  have c0 : w.cell? ⟨R, 0, none⟩ = some (.slice a len cap) := by simp [World.cell?, h1]
  have c1 : w.cell? ⟨R, 1, none⟩ = some (.int .i64 p) := by simp [World.cell?, h1]
  have f1 : w.frozen? ⟨R, 1, none⟩ = false := by simp [World.frozen?, h1]
  have fin : ∀ j : Nat, Rs w0 ((w.setCell ⟨R, 1, none⟩ (.int .i64 ((p : Int) + 1))).drewN j) R (m + 1) ∧ w.grownBy ((w.setCell ⟨R, 1, none⟩ (.int .i64 ((p : Int) + 1))).drewN j) (some R) := by
    intro j
    have g : w.grownBy ((w.setCell ⟨R, 1, none⟩ (.int .i64 ((p : Int) + 1))).drewN j) (some R) := by
      have g := grown_set (w := w) (R := R) 1 (.int .i64 ((p : Int) + 1))
      exact ⟨g.os, g.tape, g.output, g.size, g.block⟩
    refine ⟨⟨⟨a, len, cap, p + 1, bs, rs_step h1, by omega, h3, h4.imp id ?_⟩, hB.grown g hB.size (fun k hk => by simp only [Option.some.injEq] at hk; omega), hl, Nat.lt_of_lt_of_le hs g.size⟩, g⟩
    rintro ⟨b, o, ha, hbR, hc, hd⟩
    exact ⟨b, o, ha, hbR, fun i hi => (World.cell?_of_block (w := w) (g.block b (by omega) (by simp; omega))).trans (hc i hi), hd⟩
  by_cases hz : len = 0
  · subst hz
    refine (pick_none R cap p a n w (by omega) hn c0 c1 f1).mono ?_
    rintro e w' ⟨rfl, rfl⟩
    exact ⟨0, rfl, Int.le_refl _, by omega, fin 0⟩
  · obtain ⟨b, o, rfl, hbR, hc, hd⟩ := h4.resolve_left hz
    by_cases hp : p < len
    · have hy := hd p
      refine (pick_byte R len cap p b o n _ w h3 hn hp hbR hy.1 hy.2 c0 c1 f1 (hc p hp)).mono ?_
      rintro e w' ⟨rfl, rfl⟩
      exact ⟨_, rfl, Int.emod_nonneg _ (by omega), Int.emod_lt_of_pos _ (by omega), fin 0⟩
    · have hy := hd (p % len)
      have hz' := hd ((p * 7 + 3) % len)
      refine (pick_mix R len cap p b o n _ _ w h3 (by omega) hn (by omega) (by omega) hbR hy.1 hy.2 hz'.1 hz'.2 c0 c1 f1 (hc _ (Nat.mod_lt _ (by omega))) (hc _ (Nat.mod_lt _ (by omega)))).mono ?_
      rintro e w' ⟨k, rfl, k1, k2, j, rfl⟩
      exact ⟨k, rfl, k1, k2, fin j⟩
set_option maxHeartbeats 400000 in
theorem one_some (w0 w : World) (R m g c : Nat) (zs : List Int) (n : Nat) (hn : 1 ≤ n) (hn2 : n ≤ 1000) (h : Rs w0 w R m) (hm : m ≤ 100000) (ho : Row w (R + 1) g n c zs) :
    Calls Try.prog 36 #[.pointer (some ⟨R, 0, none⟩), .slice (some ⟨g, 0, none⟩) n c] w fun e w' => ∃ x : Int, e = .returned (.int .i64 x) ∧ x ∈ zs ∧ Rs w0 w' R (m + 1) ∧ w.grownBy w' (some R) := by
  have HP := Lib.hid (pick_any w0 w R m (n : Int) h hm (by omega))
  have HG := Lib.hid ho
  clear h ho
  go_enter Try.func36, Try.ntmps36
  go_wp2_with fail
  refine HP.out.mono ?_; rintro e w1 ⟨k, rfl, k1, k2, hs, hg⟩
  obtain ⟨k, rfl⟩ := Int.eq_ofNat_of_zero_le k1
  have hc : w1.cell? ⟨g, k, none⟩ = some (.int .i64 (zs.getD k 0)) := (HG.out.kept hg (by have := HG.out.2.lt g rfl; simp; omega)).get k (by omega)
  have HM := Lib.hid (show zs.getD k 0 ∈ zs by have := HG.out.len; rw [List.getD_eq_getElem?_getD, List.getElem?_eq_getElem (by omega)]; exact List.getElem_mem _)
  obtain ⟨x, hx⟩ : ∃ x, x = zs.getD k 0 := ⟨_, rfl⟩
  rw [← hx] at hc HM
  clear hx HG HP
  go_wp2_with fail
  go_ret
  exact ⟨x, rfl, HM.out, hs, hg⟩
/-- A number of a list that was written out behind the reader. -/
theorem one_any (w0 w : World) (R m : Nat) (v : Value) (zs : List Int) (n : Nat) (hn0 : zs.length = n) (hn : 1 ≤ n) (hn2 : n ≤ 1000) (h : Rs w0 w R m) (hm : m ≤ 100000) (ho : Own w (R + 1) v zs) :
    Calls Try.prog 36 #[.pointer (some ⟨R, 0, none⟩), v] w fun e w' => ∃ x : Int, e = .returned (.int .i64 x) ∧ x ∈ zs ∧ Rs w0 w' R (m + 1) ∧ w.grownBy w' (some R) := by
  obtain ⟨g, c, rfl, _, _, hr⟩ := ho.row (by omega)
  rw [hn0] at hr ⊢
  exact one_some w0 w R m g c zs n hn hn2 h hm hr
theorem rs_new {w : World} {a : Option Addr} {cap n : Nat} {bs : List Int} (hn : n ≤ bs.length) (h2 : n ≤ 2000)
    (h3 : bs = [] ∨ ∃ b off, a = some ⟨b, off, none⟩ ∧ ∀ i, i < bs.length → w.cell? ⟨b, off + i, none⟩ = some (.int .u8 (bs.getD i 0))) (h4 : ∀ z ∈ bs, 0 ≤ z ∧ z ≤ 255) :
    Rs w (w.alloc (.cells #[.slice a n cap, .int .i64 0] 47)) w.heap.size 0 := by
  refine ⟨⟨a, n, cap, 0, bs, by show (w.heap.push _)[w.heap.size]? = _; simp, Nat.le_refl _, h2, ?_⟩, (Below.refl _ _).alloc (Nat.le_refl _) _, Nat.le_refl _, by simp⟩
  by_cases h0 : n = 0
  · exact .inl h0
  · right
    obtain ⟨b, off, ha, hc⟩ := h3.resolve_left (by rintro rfl; simp at hn; omega)
    refine ⟨b, off, ha, World.block_lt_of_cell? w _ (hc 0 (by omega)), fun i hi => ?_, fun i => ?_⟩
    · rw [← hc i (by omega)]
      exact ((Below.refl w.heap.size w).alloc (Nat.le_refl _) _).cell (World.block_lt_of_cell? w _ (hc i (by omega)))
    · by_cases h : i < bs.length
      · exact h4 _ (by rw [List.getD_eq_getElem?_getD, List.getElem?_eq_getElem h]; exact List.getElem_mem _)
      · rw [List.getD_eq_getElem?_getD, List.getElem?_eq_none (by omega)]; exact ⟨Int.le_refl _, by decide⟩
theorem newReader_any (w : World) (v : Value) (bs : List Int) (h : Rdb w v bs) :
    Calls Try.prog 25 #[v] w fun e w' => ∃ R, e = .returned (.pointer (some ⟨R, 0, none⟩)) ∧ Rs w w' R 0 := by
  obtain ⟨a, cap, rfl, h1, h2, h3, h4⟩ := h
  have H3 := Lib.hid h3
  have H4 := Lib.hid h4
  clear h3 h4
  by_cases hl : 2000 < bs.length
  · go_enter Try.func25, Try.ntmps25
    go_wp2
    go_ret
    exact ⟨_, rfl, rs_new (by omega) (by omega) H3.out H4.out⟩
  · go_enter Try.func25, Try.ntmps25
    go_wp2
    go_ret
    exact ⟨_, rfl, rs_new (Nat.le_refl _) (by omega) H3.out H4.out⟩
end Go.Proofs.Ytfbflokkjgbabaa
