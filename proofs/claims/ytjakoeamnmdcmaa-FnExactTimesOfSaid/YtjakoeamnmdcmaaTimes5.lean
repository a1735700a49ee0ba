/- TimesOf: the reference and the program return the product of two rows. Conditions: at most 1048576 numbers. -/
import Derived.Test.YtjakoeamnmdcmaaRow1
import Derived.Test.YtjakoeamnmdcmaaMem
namespace Go.Proofs.Ytjakoeamnmdcmaa
open Go.RowKit
/-- Row i of the products, the first k of them. -/
def pdIn (a b : List Int) (i : Nat) (out : List Int) : Nat → List Int
  | 0 => out
  | k + 1 => (pdIn a b i out k).set (i + k) ((pdIn a b i out k).getD (i + k) 0 + a.getD i 0 * b.getD k 0)
/-- The first i rows. -/
def pdTo (a b : List Int) : Nat → List Int
  | 0 => List.replicate (a.length + b.length - 1) 0
  | i + 1 => pdIn a b i (pdTo a b i) b.length
theorem pdIn_len (a b : List Int) (i : Nat) (out : List Int) (k : Nat) : (pdIn a b i out k).length = out.length := by
  induction k with
  | zero => rfl
  | succ k ih => simp [pdIn, ih]
theorem pdTo_len (a b : List Int) (i : Nat) : (pdTo a b i).length = a.length + b.length - 1 := by
  induction i with
  | zero => simp [pdTo]
  | succ k ih => simp [pdTo, pdIn_len, ih]
/-- All numbers are within M. -/
def bdAll (M : Int) (zs : List Int) : Prop := ∀ j, -M ≤ zs.getD j 0 ∧ zs.getD j 0 ≤ M
theorem bdAll_set {M M' x : Int} {zs : List Int} (h : bdAll M zs) (hM0 : 0 ≤ M) (hM : M ≤ M') (h1 : -M' ≤ x) (h2 : x ≤ M') (q : Nat) : bdAll M' (zs.set q x) := by
  intro j
  have := h j
  simp only [List.getD_eq_getElem?_getD, List.getElem?_set] at *
  split
  · split
    · simp; omega
    · simp; omega
  · omega
theorem mul_bd {x y : Int} (h1 : -1000 ≤ x ∧ x ≤ 1000) (h2 : -1000 ≤ y ∧ y ≤ 1000) : -1000000 ≤ x * y ∧ x * y ≤ 1000000 := by
  have h : (x * y).natAbs ≤ 1000000 := by
    rw [Int.natAbs_mul]
    exact Nat.mul_le_mul (show x.natAbs ≤ 1000 by omega) (show y.natAbs ≤ 1000 by omega)
  omega
theorem pdIn_bd {a b out : List Int} (ha : ∀ j, -1000 ≤ a.getD j 0 ∧ a.getD j 0 ≤ 1000) (hb : ∀ j, -1000 ≤ b.getD j 0 ∧ b.getD j 0 ≤ 1000) {M : Int} (_hM : 0 ≤ M) (ho : bdAll M out) (i k : Nat) : bdAll (M + 1000000 * k) (pdIn a b i out k) := by
  induction k with
  | zero => simpa [pdIn] using ho
  | succ k ih =>
    have m := mul_bd (ha i) (hb k)
    have t := ih (i + k)
    exact bdAll_set ih (by omega) (by omega) (by omega) (by omega) _
theorem pdTo_bd {a b : List Int} (ha : ∀ j, -1000 ≤ a.getD j 0 ∧ a.getD j 0 ≤ 1000) (hb : ∀ j, -1000 ≤ b.getD j 0 ∧ b.getD j 0 ≤ 1000) (hl : b.length ≤ 16) (i : Nat) : bdAll (16000000 * i) (pdTo a b i) := by
  induction i with
  | zero => intro j; simp [pdTo, List.getElem?_replicate]; split <;> simp
  | succ i ih =>
    have t := pdIn_bd ha hb (show (0 : Int) ≤ 16000000 * i by omega) ih i b.length
    intro j
    have := t j
    simp only [pdTo]
    omega
/-- The product. -/
def prodL (a b : List Int) : List Int := if a.length = 0 ∨ b.length = 0 then [] else pdTo a b a.length
def okTimesOf (a b : List Int) : Bool := vrow a && vrow b
def resTimesOf (a b : List Int) : List Int := if okTimesOf a b = true then prodL a b else []
theorem resTimesOf_len (a b : List Int) : (resTimesOf a b).length ≤ 1048576 := by
  unfold resTimesOf
  split
  · rename_i h
    simp only [okTimesOf, Bool.and_eq_true] at h
    have h1 := vrow_len h.1
    have h2 := vrow_len h.2
    unfold prodL
    split
    · simp
    · rw [pdTo_len]; omega
  · simp
set_option maxHeartbeats 1600000 in
theorem product_any (w : World) (v0 : Value) (z0 : List Int) (h0 : Rd w v0 z0) (v1 : Value) (z1 : List Int) (h1 : Rd w v1 z1) (g0 : vrow z0 = true) (g1 : vrow z1 = true) :
    Calls Try.prog 29 #[v0, v1] w fun e w' => ∃ r, e = .returned r ∧ Own w' w.heap.size r (prodL z0 z1) ∧ Below w.heap.size w w' := by
  by_cases n1 : 1 ≤ z0.length
  · by_cases m1 : 1 ≤ z1.length
    · have HR := Lib.hid (show prodL z0 z1 = pdTo z0 z1 z0.length by unfold prodL; rw [if_neg (by omega)])
      have HX := Lib.hid (vrow_all g0)
      have HY := Lib.hid (vrow_all g1)
      have n16 := vrow_len g0
      have m16 := vrow_len g1
      have e0 := h0
      have e1 := h1
      obtain ⟨a0, c0, rfl, hlc0, hm0, hc0⟩ := e0
      obtain ⟨a1, c1, rfl, hlc1, hm1, hc1⟩ := e1
      obtain ⟨b0, o0, rfl, k0⟩ := hc0.resolve_left (by intro hh; rw [hh] at n1; simp at n1)
      obtain ⟨b1, o1, rfl, k1⟩ := hc1.resolve_left (by intro hh; rw [hh] at m1; simp at m1)
      have bl0 := World.block_lt_of_cell? w _ (k0 0 (by omega))
      have bl1 := World.block_lt_of_cell? w _ (k1 0 (by omega))
      have HI := Lib.hid (show ∀ i, pdTo z0 z1 (i + 1) = pdIn z0 z1 i (pdTo z0 z1 i) z1.length from fun _ => rfl)
      have HZ := Lib.hid (show pdTo z0 z1 0 = List.replicate (z0.length + z1.length - 1) 0 from rfl)
      obtain ⟨n, hn⟩ : ∃ n, n = z0.length := ⟨_, rfl⟩
      obtain ⟨m, hm⟩ : ∃ n, n = z1.length := ⟨_, rfl⟩
      rw [← hn] at h0 n16 n1 hlc0 k0 HZ HR ⊢
      rw [← hm] at h1 m16 m1 hlc1 k1 HI HZ ⊢
      have H0 := Lib.hid h0
      have H1 := Lib.hid h1
      have CX := Lib.hid k0
      have CY := Lib.hid k1
      have HN := Lib.hid hn
      have HM := Lib.hid hm
      obtain ⟨L, hL⟩ : ∃ L, L = n + m - 1 := ⟨_, rfl⟩
      rw [← hL] at HZ
      have hLi : (n : Int) + (m : Int) - 1 = (L : Int) := by omega
      have hL1 : L ≤ 31 := by omega
      have hL2 : n + m ≤ L + 1 := by omega
      clear k0 k1 hc0 hc1 h0 h1 hn hm hL
      have z3 : ¬ n = 0 := by omega
      have z4 : ¬ m = 0 := by omega
      have z5 : ((n : Int) == 0) = false := by simp; omega
      have z6 : ((m : Int) == 0) = false := by simp; omega
      go_enter Try.func29, Try.ntmps29
      go_wp2_with (first | (at_make; refine wpList_mk rfl _ _ rfl L rfl rfl (by omega) ?_))
      intro w1 hrow hgrow
      have hb1 : Below w.heap.size w w1 := (Below.refl _ _).grown hgrow (Nat.le_refl _) (by simp)
      clear hgrow hLi
      rw [← HZ.out] at hrow
      go_wp2
      go_loopw [6, 7] (fun i _ wr => ∃ j : Nat, j ≤ n ∧ i = .int .i64 j ∧ Row wr w.heap.size w.heap.size L L (pdTo z0 z1 j) ∧ Below w.heap.size w wr) (fun i _ _ => n - (intOf i).toNat)
      case atStart => exact ⟨0, Nat.zero_le _, rfl, hrow, hb1⟩
      case round =>
        obtain ⟨i, hi, rfl, hr, hbel⟩ := hrel
        clear hrow hb1
        by_cases hlt : i < n
        · obtain ⟨wo, rfl⟩ : ∃ wo : World, wo = wr := ⟨_, rfl⟩
          have hx2 := HX.out i
          have h3 : wo.cell? ⟨b0, o0 + i, none⟩ = some (.int .i64 (z0.getD i 0)) := (hbel.cell (p := ⟨b0, o0 + i, none⟩) bl0).trans (CX.out i hlt)
          obtain ⟨x, hx⟩ : ∃ x, x = z0.getD i 0 := ⟨_, rfl⟩
          rw [← hx] at h3 hx2
          have HXX := Lib.hid hx
          clear hx
          go_wp2
          go_loopw [7] (fun i1 wr => ∃ k : Nat, k ≤ m ∧ i1 = .int .i64 k ∧ Row wr w.heap.size w.heap.size L L (pdIn z0 z1 i (pdTo z0 z1 i) k) ∧ Below w.heap.size w wr) (fun i1 _ => m - (intOf i1).toNat)
          case atStart => exact ⟨0, Nat.zero_le _, rfl, hr, hbel⟩
          case round =>
            obtain ⟨k, hk, rfl, hr', hbel'⟩ := hrel
            clear hr hbel h3
            by_cases hltk : k < m
            · have h3 : wr.cell? ⟨b0, o0 + i, none⟩ = some (.int .i64 x) := by rw [HXX.out]; exact (hbel'.cell (p := ⟨b0, o0 + i, none⟩) bl0).trans (CX.out i hlt)
              have h4 : wr.cell? ⟨b1, o1 + k, none⟩ = some (.int .i64 (z1.getD k 0)) := (hbel'.cell (p := ⟨b1, o1 + k, none⟩) bl1).trans (CY.out k hltk)
              have h1 := hr'.get (i + k) (by omega)
              have h2 := hr'.free (i + k)
              have hy2 := HY.out k
              have rz := pdIn_bd HX.out HY.out (show (0 : Int) ≤ 16000000 * i by omega) (pdTo_bd HX.out HY.out (show z1.length ≤ 16 by rw [← HM.out]; exact m16) i) i k (i + k)
              obtain ⟨y, hy⟩ : ∃ y, y = z1.getD k 0 := ⟨_, rfl⟩
              obtain ⟨z, hz⟩ : ∃ z, z = (pdIn z0 z1 i (pdTo z0 z1 i) k).getD (i + k) 0 := ⟨_, rfl⟩
              rw [← hy] at h4 hy2
              rw [← hz] at h1 rz
              have HE := Lib.hid (show (pdIn z0 z1 i (pdTo z0 z1 i) k).set (i + k) (z + x * y) = pdIn z0 z1 i (pdTo z0 z1 i) (k + 1) by rw [HXX.out, hy, hz]; rfl)
              clear hy hz
              have hmb := mul_bd hx2 hy2
              have s1 : (i : Int) < (n : Int) := by omega
              have s2 : (k : Int) < (m : Int) := by omega
              have s3 : (i : Int) + (k : Int) < (L : Int) := by omega
              have s4 : ((i : Int) + (k : Int)).toNat = i + k := by omega
              have s5 : (0 : Int) ≤ (i : Int) + (k : Int) := by omega
              have s6 : IntKind.i64.wrap ((i : Int) + (k : Int)) = (i : Int) + (k : Int) := IntWalk.i64_in _ (by omega)
              have s7 : IntKind.i64.wrap (x * y) = x * y := IntWalk.i64_in _ (by omega)
              have s8 : IntKind.i64.wrap (z + x * y) = z + x * y := IntWalk.i64_in _ (by omega)
              go_wp2
              go_still_tail 21, (by kernel_rfl)
              clear s4 s6 s7 s8
              change wpList _ _ _ _ _ wr.drew
              go_wp2
              go_roundw
              case rel => exact ⟨k + 1, by omega, by go_num, by rw [← HE.out]; exact hr'.drew.set (i + k) _, hbel'.drew.setCell (Nat.le_refl _) _⟩
              case measure => simp [intOf]; omega
            · have e : k = m := by omega
              have HE := Lib.hid (show pdIn z0 z1 i (pdTo z0 z1 i) k = pdTo z0 z1 (i + 1) by rw [HI.out, e])
              clear hk e
              go_wp2
              go_roundw
              case rel => exact ⟨i + 1, by omega, by go_num, by rw [← HE.out]; exact hr', hbel'⟩
              case measure => simp [intOf]; omega
        · go_wp2
          go_ret
          have e : i = n := by omega
          subst e
          exact ret_own hr.own HR.out hbel
    · have hm : z1.length = 0 := by omega
      have HR := Lib.hid (show prodL z0 z1 = [] by unfold prodL; rw [if_pos (.inr hm)])
      obtain ⟨a0, c0, rfl, hlc0, hm0, _⟩ := h0
      obtain ⟨a1, c1, rfl, _, _, _⟩ := h1
      rw [hm]
      have n16 := vrow_len g0
      obtain ⟨n, hn⟩ : ∃ n, n = z0.length := ⟨_, rfl⟩
      rw [← hn] at n1 n16 ⊢
      have z5 : ((n : Int) == 0) = false := by simp; omega
      clear hm hn hlc0
      go_enter Try.func29, Try.ntmps29
      go_wp2
      go_ret
      exact ret_own (Own.lit0 w (Nat.le_refl _)) HR.out ((Below.refl _ _).alloc (Nat.le_refl _) _)
  · have hm : z0.length = 0 := by omega
    have HR := Lib.hid (show prodL z0 z1 = [] by unfold prodL; rw [if_pos (.inl hm)])
    obtain ⟨a0, c0, rfl, _, _, _⟩ := h0
    obtain ⟨a1, c1, rfl, hlc1, hm1, _⟩ := h1
    rw [hm]
    clear hm hlc1
    go_enter Try.func29, Try.ntmps29
    go_wp2
    go_ret
    exact ret_own (Own.lit0 w (Nat.le_refl _)) HR.out ((Below.refl _ _).alloc (Nat.le_refl _) _)
theorem specTimesOf_any (w : World) (v0 : Value) (z0 : List Int) (h0 : Rd w v0 z0) (l0 : z0.length ≤ 1048576) (v1 : Value) (z1 : List Int) (h1 : Rd w v1 z1) (l1 : z1.length ≤ 1048576) :
    Calls Try.prog 10 #[v0, v1] w fun e w' => ∃ r, e = .returned r ∧ Own w' w.heap.size r (resTimesOf z0 z1) ∧ Below w.heap.size w w' := by
  by_cases g0 : vrow z0 = true
  · by_cases g1 : vrow z1 = true
    · have HR := Lib.hid (show resTimesOf z0 z1 = prodL z0 z1 by simp [resTimesOf, okTimesOf, g0, g1])
      go_enter Try.func10, Try.ntmps10
      go_wp2_with fail
      refine (validRow_any _ _ z0 h0 l0).mono ?_; rintro e w' ⟨rfl, rfl⟩
      go_wp2_with fail
      refine (validRow_any _ _ z1 h1 l1).mono ?_; rintro e w' ⟨rfl, rfl⟩
      go_wp2_with fail
      refine (product_any _ _ z0 h0 _ z1 h1 g0 g1).mono ?_; rintro e w' ⟨r, rfl, hr, hb⟩
      go_wp2_with fail
      go_ret
      exact ret_own hr HR.out hb
    · have g1' : vrow z1 = false := by simpa using g1
      have HR := Lib.hid (show resTimesOf z0 z1 = [] by simp [resTimesOf, okTimesOf, g1'])
      clear g1
      go_enter Try.func10, Try.ntmps10
      go_wp2_with fail
      refine (validRow_any _ _ z0 h0 l0).mono ?_; rintro e w' ⟨rfl, rfl⟩
      go_wp2_with fail
      refine (validRow_any _ _ z1 h1 l1).mono ?_; rintro e w' ⟨rfl, rfl⟩
      go_wp2_with fail
      go_ret
      exact ret_own (Own.nil _ _) HR.out (Below.refl _ _)
  · have g0' : vrow z0 = false := by simpa using g0
    have HR := Lib.hid (show resTimesOf z0 z1 = [] by simp [resTimesOf, okTimesOf, g0'])
    clear g0
    go_enter Try.func10, Try.ntmps10
    go_wp2_with fail
    refine (validRow_any _ _ z0 h0 l0).mono ?_; rintro e w' ⟨rfl, rfl⟩
    go_wp2_with fail
    go_ret
    exact ret_own (Own.nil _ _) HR.out (Below.refl _ _)
set_option maxHeartbeats 1600000 in
theorem implTimesOf_any (w : World) (v0 : Value) (z0 : List Int) (h0 : Rd w v0 z0) (l0 : z0.length ≤ 1048576) (v1 : Value) (z1 : List Int) (h1 : Rd w v1 z1) (l1 : z1.length ≤ 1048576) :
    Calls Try.prog 12 #[v0, v1] w fun e w' => ∃ r, e = .returned r ∧ Own w' w.heap.size r (resTimesOf z0 z1) ∧ Below w.heap.size w w' := by
  by_cases g0 : vrow z0 = true
  · by_cases g1 : vrow z1 = true
    · have HR0 := Lib.hid (show resTimesOf z0 z1 = prodL z0 z1 by simp [resTimesOf, okTimesOf, g0, g1])
      by_cases n1 : 1 ≤ z0.length
      · by_cases m1 : 1 ≤ z1.length
        · have HR := Lib.hid (show resTimesOf z0 z1 = pdTo z0 z1 z0.length by rw [HR0.out]; unfold prodL; rw [if_neg (by omega)])
          clear HR0
          have HX := Lib.hid (vrow_all g0)
          have HY := Lib.hid (vrow_all g1)
          have n16 := vrow_len g0
          have m16 := vrow_len g1
          have e0 := h0
          have e1 := h1
          obtain ⟨a0, c0, rfl, hlc0, hm0, hc0⟩ := e0
          obtain ⟨a1, c1, rfl, hlc1, hm1, hc1⟩ := e1
          obtain ⟨b0, o0, rfl, k0⟩ := hc0.resolve_left (by intro hh; rw [hh] at n1; simp at n1)
          obtain ⟨b1, o1, rfl, k1⟩ := hc1.resolve_left (by intro hh; rw [hh] at m1; simp at m1)
          have bl0 := World.block_lt_of_cell? w _ (k0 0 (by omega))
          have bl1 := World.block_lt_of_cell? w _ (k1 0 (by omega))
          have HI := Lib.hid (show ∀ i, pdTo z0 z1 (i + 1) = pdIn z0 z1 i (pdTo z0 z1 i) z1.length from fun _ => rfl)
          have HZ := Lib.hid (show pdTo z0 z1 0 = List.replicate (z0.length + z1.length - 1) 0 from rfl)
          obtain ⟨n, hn⟩ : ∃ n, n = z0.length := ⟨_, rfl⟩
          obtain ⟨m, hm⟩ : ∃ n, n = z1.length := ⟨_, rfl⟩
          rw [← hn] at h0 n16 n1 hlc0 k0 HZ HR ⊢
          rw [← hm] at h1 m16 m1 hlc1 k1 HI HZ ⊢
          have H0 := Lib.hid h0
          have H1 := Lib.hid h1
          have CX := Lib.hid k0
          have CY := Lib.hid k1
          have HN := Lib.hid hn
          have HM := Lib.hid hm
          obtain ⟨L, hL⟩ : ∃ L, L = n + m - 1 := ⟨_, rfl⟩
          rw [← hL] at HZ
          have hLi : (n : Int) + (m : Int) - 1 = (L : Int) := by omega
          have hL1 : L ≤ 31 := by omega
          have hL2 : n + m ≤ L + 1 := by omega
          clear k0 k1 hc0 hc1 h0 h1 hn hm hL
          have z3 : ¬ n = 0 := by omega
          have z4 : ¬ m = 0 := by omega
          have z5 : ((n : Int) == 0) = false := by simp; omega
          have z6 : ((m : Int) == 0) = false := by simp; omega
          go_enter Try.func12, Try.ntmps12
          go_wp2_with fail
          refine (implValidRow_any _ _ z0 H0.out (by rw [← HN.out]; omega)).mono ?_; rintro e w' ⟨rfl, rfl⟩
          go_wp2_with fail
          refine (implValidRow_any _ _ z1 H1.out (by rw [← HM.out]; omega)).mono ?_; rintro e w' ⟨rfl, rfl⟩
          go_wp2_with (first | (at_make; refine wpList_mk rfl _ _ rfl L rfl rfl (by omega) ?_))
          intro w1 hrow hgrow
          have hb1 : Below w.heap.size w w1 := (Below.refl _ _).grown hgrow (Nat.le_refl _) (by simp)
          clear hgrow hLi
          rw [← HZ.out] at hrow
          go_wp2
          go_loopw [6, 7, 8, 9, 36] (fun _ _ _ _ i wr => ∃ j : Nat, j ≤ n ∧ i = .int .i64 j ∧ Row wr w.heap.size w.heap.size L L (pdTo z0 z1 j) ∧ Below w.heap.size w wr) (fun _ _ _ _ i _ => n - (intOf i).toNat)
          case atStart => exact ⟨0, Nat.zero_le _, rfl, hrow, hb1⟩
          case round =>
            obtain ⟨i, hi, rfl, hr, hbel⟩ := hrel
            clear hrow hb1
            by_cases hlt : i < n
            · obtain ⟨wo, rfl⟩ : ∃ wo : World, wo = wr := ⟨_, rfl⟩
              have hx2 := HX.out i
              have h3 : wo.cell? ⟨b0, o0 + i, none⟩ = some (.int .i64 (z0.getD i 0)) := (hbel.cell (p := ⟨b0, o0 + i, none⟩) bl0).trans (CX.out i hlt)
              obtain ⟨x, hx⟩ : ∃ x, x = z0.getD i 0 := ⟨_, rfl⟩
              rw [← hx] at h3 hx2
              have HXX := Lib.hid hx
              clear hx
              go_wp2
              go_loopw [8, 9, 43] (fun _ _ i1 wr => ∃ k : Nat, k ≤ m ∧ i1 = .int .i64 k ∧ Row wr w.heap.size w.heap.size L L (pdIn z0 z1 i (pdTo z0 z1 i) k) ∧ Below w.heap.size w wr) (fun _ _ i1 _ => m - (intOf i1).toNat)
              case atStart => exact ⟨0, Nat.zero_le _, rfl, hr, hbel⟩
              case round =>
                obtain ⟨k, hk, rfl, hr', hbel'⟩ := hrel
                clear hr hbel h3
                by_cases hltk : k < m
                · have h3 : wr.cell? ⟨b0, o0 + i, none⟩ = some (.int .i64 x) := by rw [HXX.out]; exact (hbel'.cell (p := ⟨b0, o0 + i, none⟩) bl0).trans (CX.out i hlt)
                  have h4 : wr.cell? ⟨b1, o1 + k, none⟩ = some (.int .i64 (z1.getD k 0)) := (hbel'.cell (p := ⟨b1, o1 + k, none⟩) bl1).trans (CY.out k hltk)
                  have h1 := hr'.get (i + k) (by omega)
                  have h2 := hr'.free (i + k)
                  have hy2 := HY.out k
                  have rz := pdIn_bd HX.out HY.out (show (0 : Int) ≤ 16000000 * i by omega) (pdTo_bd HX.out HY.out (show z1.length ≤ 16 by rw [← HM.out]; exact m16) i) i k (i + k)
                  obtain ⟨y, hy⟩ : ∃ y, y = z1.getD k 0 := ⟨_, rfl⟩
                  obtain ⟨z, hz⟩ : ∃ z, z = (pdIn z0 z1 i (pdTo z0 z1 i) k).getD (i + k) 0 := ⟨_, rfl⟩
                  rw [← hy] at h4 hy2
                  rw [← hz] at h1 rz
                  have HE := Lib.hid (show (pdIn z0 z1 i (pdTo z0 z1 i) k).set (i + k) (z + x * y) = pdIn z0 z1 i (pdTo z0 z1 i) (k + 1) by rw [HXX.out, hy, hz]; rfl)
                  clear hy hz
                  have hmb := mul_bd hx2 hy2
                  have s1 : (i : Int) < (n : Int) := by omega
                  have s2 : (k : Int) < (m : Int) := by omega
                  have s3 : (i : Int) + (k : Int) < (L : Int) := by omega
                  have s4 : ((i : Int) + (k : Int)).toNat = i + k := by omega
                  have s5 : (0 : Int) ≤ (i : Int) + (k : Int) := by omega
                  have s6 : IntKind.i64.wrap ((i : Int) + (k : Int)) = (i : Int) + (k : Int) := IntWalk.i64_in _ (by omega)
                  have s7 : IntKind.i64.wrap (x * y) = x * y := IntWalk.i64_in _ (by omega)
                  have s8 : IntKind.i64.wrap (z + x * y) = z + x * y := IntWalk.i64_in _ (by omega)
                  go_wp2
                  clear s4 s6 s7 s8
                  go_roundw
                  case rel => exact ⟨k + 1, by omega, by go_num, by rw [← HE.out]; exact hr'.set (i + k) _, hbel'.setCell (Nat.le_refl _) _⟩
                  case measure => simp [intOf]; omega
                · have e : k = m := by omega
                  have HE := Lib.hid (show pdIn z0 z1 i (pdTo z0 z1 i) k = pdTo z0 z1 (i + 1) by rw [HI.out, e])
                  clear hk e
                  go_wp2
                  go_roundw
                  case rel => exact ⟨i + 1, by omega, by go_num, by rw [← HE.out]; exact hr', hbel'⟩
                  case measure => simp [intOf]; omega
            · go_wp2
              go_ret
              have e : i = n := by omega
              subst e
              exact ret_own hr.own HR.out hbel
        · have hm : z1.length = 0 := by omega
          have HR := Lib.hid (show resTimesOf z0 z1 = [] by rw [HR0.out]; unfold prodL; rw [if_pos (.inr hm)])
          have h0' := h0
          have h1' := h1
          obtain ⟨a0, c0, rfl, hlc0, hm0, _⟩ := h0
          obtain ⟨a1, c1, rfl, _, _, _⟩ := h1
          rw [hm] at h1' ⊢
          have n16 := vrow_len g0
          have HL1 := Lib.hid l1
          have HL0 := Lib.hid l0
          obtain ⟨n, hn⟩ : ∃ n, n = z0.length := ⟨_, rfl⟩
          rw [← hn] at n1 n16 h0' ⊢
          have H0 := Lib.hid h0'
          have H1 := Lib.hid h1'
          have z5 : ((n : Int) == 0) = false := by simp; omega
          clear hm hn hlc0 h0' h1' l0 l1 HR0
          go_enter Try.func12, Try.ntmps12
          go_wp2_with fail
          refine (implValidRow_any _ _ z0 H0.out HL0.out).mono ?_; rintro e w' ⟨rfl, rfl⟩
          go_wp2_with fail
          refine (implValidRow_any _ _ z1 H1.out HL1.out).mono ?_; rintro e w' ⟨rfl, rfl⟩
          go_wp2_with fail
          go_ret
          exact ret_own (Own.lit0 w (Nat.le_refl _)) HR.out ((Below.refl _ _).alloc (Nat.le_refl _) _)
      · have hm : z0.length = 0 := by omega
        have HR := Lib.hid (show resTimesOf z0 z1 = [] by rw [HR0.out]; unfold prodL; rw [if_pos (.inl hm)])
        have h0' := h0
        have h1' := h1
        obtain ⟨a0, c0, rfl, _, _, _⟩ := h0
        obtain ⟨a1, c1, rfl, hlc1, hm1, _⟩ := h1
        rw [hm] at h0' ⊢
        have H0 := Lib.hid h0'
        have H1 := Lib.hid h1'
        have HL1 := Lib.hid l1
        have HL0 := Lib.hid l0
        clear hm hlc1 h0' h1' l0 l1 HR0
        go_enter Try.func12, Try.ntmps12
        go_wp2_with fail
        refine (implValidRow_any _ _ z0 H0.out HL0.out).mono ?_; rintro e w' ⟨rfl, rfl⟩
        go_wp2_with fail
        refine (implValidRow_any _ _ z1 H1.out HL1.out).mono ?_; rintro e w' ⟨rfl, rfl⟩
        go_wp2_with fail
        go_ret
        exact ret_own (Own.lit0 w (Nat.le_refl _)) HR.out ((Below.refl _ _).alloc (Nat.le_refl _) _)
    · have g1' : vrow z1 = false := by simpa using g1
      have HR := Lib.hid (show resTimesOf z0 z1 = [] by simp [resTimesOf, okTimesOf, g1'])
      clear g1
      go_enter Try.func12, Try.ntmps12
      go_wp2_with fail
      refine (implValidRow_any _ _ z0 h0 l0).mono ?_; rintro e w' ⟨rfl, rfl⟩
      go_wp2_with fail
      refine (implValidRow_any _ _ z1 h1 l1).mono ?_; rintro e w' ⟨rfl, rfl⟩
      go_wp2_with fail
      go_ret
      exact ret_own (Own.nil _ _) HR.out (Below.refl _ _)
  · have g0' : vrow z0 = false := by simpa using g0
    have HR := Lib.hid (show resTimesOf z0 z1 = [] by simp [resTimesOf, okTimesOf, g0'])
    clear g0
    go_enter Try.func12, Try.ntmps12
    go_wp2_with fail
    refine (implValidRow_any _ _ z0 h0 l0).mono ?_; rintro e w' ⟨rfl, rfl⟩
    go_wp2_with fail
    go_ret
    exact ret_own (Own.nil _ _) HR.out (Below.refl _ _)
end Go.Proofs.Ytjakoeamnmdcmaa
