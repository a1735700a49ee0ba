/- RingOf: the reference and the program sum up products round the row. Conditions: at most 1048576 numbers. -/
import Derived.Test.YtnhpcjghgnajhaaTurn3
namespace Go.Proofs.Ytnhpcjghgnajhaa
open Go.RowKit
/-- Row i of the products, the first k of them. -/
def ringIn (n : Nat) (a b : List Int) (i : Nat) (out : List Int) : Nat → List Int
  | 0 => out
  | k + 1 => (ringIn n a b i out k).set ((i + k) % n) (((ringIn n a b i out k).getD ((i + k) % n) 0 + a.getD i 0 * b.getD k 0) % 97)
/-- The first i rows. -/
def ringTo (n : Nat) (a b : List Int) : Nat → List Int
  | 0 => List.replicate n 0
  | i + 1 => ringIn n a b i (ringTo n a b i) n
theorem ringIn_len (n : Nat) (a b : List Int) (i : Nat) (out : List Int) (k : Nat) : (ringIn n a b i out k).length = out.length := by
  induction k with
  | zero => rfl
  | succ k ih => simp [ringIn, ih]
theorem ringTo_len (n : Nat) (a b : List Int) (i : Nat) : (ringTo n a b i).length = n := by
  induction i with
  | zero => simp [ringTo]
  | succ k ih => simp [ringTo, ringIn_len, ih]
/-- All numbers are rests. -/
def restAll (zs : List Int) : Prop := ∀ j, 0 ≤ zs.getD j 0 ∧ zs.getD j 0 ≤ 96
theorem restAll_set {zs : List Int} (h : restAll zs) (q : Nat) (x : Int) : restAll (zs.set q (x % 97)) := by
  intro j
  have := h j
  simp only [List.getD_eq_getElem?_getD, List.getElem?_set] at *
  split
  · split
    · simp; omega
    · simp
  · exact this
theorem ringIn_rest (n : Nat) (a b : List Int) (i : Nat) (out : List Int) (h : restAll out) (k : Nat) : restAll (ringIn n a b i out k) := by
  induction k with
  | zero => exact h
  | succ k ih => exact restAll_set ih _ _
theorem ringTo_rest (n : Nat) (a b : List Int) (i : Nat) : restAll (ringTo n a b i) := by
  induction i with
  | zero => intro j; simp [ringTo, List.getElem?_replicate]; split <;> simp
  | succ k ih => exact ringIn_rest _ _ _ _ _ ih _
theorem restAll_of {zs : List Int} (h : vrests zs = true) : restAll zs := by
  simp only [vrests, Bool.and_eq_true] at h
  have ha := allB_iff.1 h.2
  intro j
  by_cases hj : j < zs.length
  · have := ha (zs.getD j 0) (by simp [List.getD, hj])
    exact this
  · simp [List.getD, List.getElem?_eq_none (by omega : zs.length ≤ j)]
theorem rest_mul {x y : Int} (hx : 0 ≤ x ∧ x ≤ 96) (hy : 0 ≤ y ∧ y ≤ 96) : 0 ≤ x * y ∧ x * y ≤ 9216 := by
  refine ⟨Int.mul_nonneg hx.1 hy.1, ?_⟩
  calc x * y ≤ 96 * y := Int.mul_le_mul_of_nonneg_right hx.2 hy.1
    _ ≤ 9216 := by omega
def okRingOf (a b : List Int) : Bool := vrests a && vrests b && decide (a.length = b.length)
def resRingOf (a b : List Int) : List Int := if okRingOf a b = true then ringTo a.length a b a.length else []
theorem resRingOf_len (a b : List Int) : (resRingOf a b).length ≤ 1048576 := by
  unfold resRingOf
  split
  · rename_i h
    simp [okRingOf, vrests] at h
    rw [ringTo_len]; omega
  · simp
set_option maxHeartbeats 1000000 in
theorem ring_any (w : World) (n b0 o0 c0 b1 o1 c1 : Nat) (xs ys : List Int) (hn0 : 1 ≤ n) (hn : n ≤ 96) (hx : restAll xs) (hy : restAll ys) (l0 : b0 < w.heap.size) (l1 : b1 < w.heap.size)
    (hcx : ∀ i, i < n → w.cell? ⟨b0, o0 + i, none⟩ = some (.int .i64 (xs.getD i 0))) (hcy : ∀ i, i < n → w.cell? ⟨b1, o1 + i, none⟩ = some (.int .i64 (ys.getD i 0))) :
    Calls Try.prog 30 #[.slice (some ⟨b0, o0, none⟩) n c0, .slice (some ⟨b1, o1, none⟩) n c1] w fun e w' => ∃ r, e = .returned r ∧ Own w' w.heap.size r (ringTo n xs ys n) ∧ Below w.heap.size w w' := by
  have HX := Lib.hid hx
  have HY := Lib.hid hy
  have CX := Lib.hid hcx
  have CY := Lib.hid hcy
  clear hx hy hcx hcy
  have z3 : ¬ n = 0 := by omega
  go_enter Try.func30, Try.ntmps30
  go_wp2_with (at_make; refine wpList_mk rfl _ _ rfl n rfl rfl (by omega) ?_)
  intro w1 hrow hgrow
  have hb1 : Below w.heap.size w w1 := (Below.refl _ _).grown hgrow (Nat.le_refl _) (by simp)
  clear hgrow
  go_wp2
  go_loopw [6] (fun i wr => ∃ m : Nat, m ≤ n ∧ i = .int .i64 m ∧ Row wr w.heap.size w.heap.size n n (ringTo n xs ys m) ∧ Below w.heap.size w wr) (fun i _ => n - (intOf i).toNat)
  case atStart => exact ⟨0, Nat.zero_le _, rfl, hrow, hb1⟩
  case round =>
    obtain ⟨m, hm, rfl, hr, hbel⟩ := hrel
    clear hrow hb1
    by_cases hlt : m < n
    · obtain ⟨wo, rfl⟩ : ∃ wo : World, wo = wr := ⟨_, rfl⟩
      go_wp2
      go_loopw [7, 8] (fun i _ wr => ∃ k : Nat, k ≤ n ∧ i = .int .i64 k ∧ Row wr w.heap.size w.heap.size n n (ringIn n xs ys m (ringTo n xs ys m) k) ∧ Below w.heap.size w wr) (fun i _ _ => n - (intOf i).toNat)
      case atStart => exact ⟨0, Nat.zero_le _, rfl, hr, hbel⟩
      case round =>
        obtain ⟨k, hk, rfl, hr', hbel'⟩ := hrel
        clear hr hbel
        by_cases hltk : k < n
        · have h3 : wr.cell? ⟨b0, o0 + m, none⟩ = some (.int .i64 (xs.getD m 0)) := (hbel'.cell l0).trans (CX.out m hlt)
          have h4 : wr.cell? ⟨b1, o1 + k, none⟩ = some (.int .i64 (ys.getD k 0)) := (hbel'.cell l1).trans (CY.out k hltk)
          obtain ⟨q, hq⟩ : ∃ q, q = (m + k) % n := ⟨_, rfl⟩
          have hqn : q < n := by rw [hq]; exact Nat.mod_lt _ (by omega)
          have HQ := Lib.hid hq
          have s2 : ((m : Int) + (k : Int)) % (n : Int) = (q : Int) := by rw [hq]; rfl
          clear hq
          have h1 := hr'.get q hqn
          have h2 := hr'.free q
          have rx := HX.out m
          have ry := HY.out k
          have rz := ringIn_rest n xs ys m _ (ringTo_rest n xs ys m) k q
          obtain ⟨x, hx⟩ : ∃ x, x = xs.getD m 0 := ⟨_, rfl⟩
          obtain ⟨y, hy⟩ : ∃ y, y = ys.getD k 0 := ⟨_, rfl⟩
          obtain ⟨z, hz⟩ : ∃ z, z = (ringIn n xs ys m (ringTo n xs ys m) k).getD q 0 := ⟨_, rfl⟩
          rw [← hx] at h3 rx
          rw [← hy] at h4 ry
          rw [← hz] at h1 rz
          have HE := Lib.hid (show (ringIn n xs ys m (ringTo n xs ys m) k).set q ((z + x * y) % 97) = ringIn n xs ys m (ringTo n xs ys m) (k + 1) by rw [hx, hy, hz, HQ.out]; rfl)
          clear hx hy hz HQ
          obtain ⟨m0, m1⟩ := rest_mul rx ry
          have s3 : (0 : Int) ≤ (q : Int) := by omega
          have s4 : (q : Int) < (n : Int) := by omega
          have s5 : IntKind.i64.wrap (x * y) = x * y := IntWalk.i64_in _ (by omega)
          have s6 : IntKind.i64.wrap (z + x * y) = z + x * y := IntWalk.i64_in _ (by omega)
          have M := Lib.hid (mod_any (z + x * y) wr.drew (by omega) (by omega))
          go_wp2
          refine wp_region_still_tail 18 (by kernel_rfl) (by kernel_rfl) ?_
          simp only [List.take_succ_cons, List.take_zero, List.drop_succ_cons, List.drop_zero]
          iterate 16 still_step
          still_call (M.out.mono fun _ _ h => ⟨h.1, h.2.symm⟩)
          still_step
          refine wpStill_nil ?_
          clear s2 s5 s6 M
          change wpList _ _ _ _ _ wr.drew
          go_wp2
          go_roundw
          case rel => exact ⟨k + 1, by omega, by go_num, by rw [← HE.out]; exact hr'.drew.set q _, hbel'.drew.setCell (Nat.le_refl _) _⟩
          case measure => simp [intOf]; omega
        · have e : k = n := by omega
          subst e
          clear hltk hk
          go_wp2
          go_roundw
          case rel => exact ⟨m + 1, by omega, by go_num, hr', hbel'⟩
          case measure => simp [intOf]; omega
    · go_wp2
      go_ret
      have e : m = n := by omega
      subst e
      exact ret_own hr.own rfl hbel
set_option maxHeartbeats 800000 in
theorem specRingOf_any (w : World) (v0 : Value) (z0 : List Int) (h0 : Rd w v0 z0) (l0 : z0.length ≤ 1048576) (v1 : Value) (z1 : List Int) (h1 : Rd w v1 z1) (l1 : z1.length ≤ 1048576) :
    Calls Try.prog 21 #[v0, v1] w fun e w' => ∃ r, e = .returned r ∧ Own w' w.heap.size r (resRingOf z0 z1) ∧ Below w.heap.size w w' := by
  by_cases g0 : vrests z0 = true
  · by_cases g1 : vrests z1 = true
    · have R0 := Lib.hid (restAll_of g0)
      have R1 := Lib.hid (restAll_of g1)
      obtain ⟨n1, n2⟩ := vrests_len g0
      obtain ⟨m1, m2⟩ := vrests_len g1
      have e0 := h0
      have e1 := h1
      obtain ⟨a0, c0, rfl, hlc0, hm0, hc0⟩ := e0
      obtain ⟨a1, c1, rfl, hlc1, hm1, hc1⟩ := e1
      by_cases hl : z0.length = z1.length
      · have HR := Lib.hid (show ringTo z0.length z0 z1 z0.length = resRingOf z0 z1 by simp [resRingOf, okRingOf, g0, g1, hl])
        obtain ⟨b0, o0, rfl, k0⟩ := hc0.resolve_left (by intro hh; rw [hh] at n1; simp at n1)
        obtain ⟨b1, o1, rfl, k1⟩ := hc1.resolve_left (by intro hh; rw [hh] at m1; simp at m1)
        rw [← hl] at h1 l1 k1 hlc1 ⊢
        obtain ⟨n, hn⟩ : ∃ n, n = z0.length := ⟨_, rfl⟩
        rw [← hn] at h0 l0 HR n1 n2 hlc0 k0 h1 l1 k1 hlc1 hl ⊢
        have H0 := Lib.hid h0
        have H1 := Lib.hid h1
        have K0 := Lib.hid k0
        have K1 := Lib.hid k1
        have HN := Lib.hid hn
        have HL := Lib.hid hl
        clear k0 k1 hc0 hc1 h0 h1 hl hn
        go_enter Try.func21, Try.ntmps21
        go_wp2_with fail
        refine (validRests_any _ _ z0 H0.out (by rw [← HN.out]; omega)).mono ?_; rintro e w' ⟨rfl, rfl⟩
        go_wp2_with fail
        refine (validRests_any _ _ z1 H1.out (by rw [← HL.out]; omega)).mono ?_; rintro e w' ⟨rfl, rfl⟩
        go_wp2_with fail
        refine (ring_any _ n b0 o0 _ b1 o1 _ z0 z1 (by omega) (by omega) R0.out R1.out (World.block_lt_of_cell? w _ (K0.out 0 (by omega))) (World.block_lt_of_cell? w _ (K1.out 0 (by omega))) K0.out K1.out).mono ?_; rintro e w' ⟨r, rfl, hr, hb⟩
        go_wp2_with fail
        go_ret
        exact ret_own hr HR.out.symm hb
      · have HR := Lib.hid (show resRingOf z0 z1 = [] by simp [resRingOf, okRingOf, hl])
        have hl1 : ((z0.length : Int) != (z1.length : Int)) = true := by simp; omega
        have G0 := Lib.hid g0
        have G1 := Lib.hid g1
        obtain ⟨n, hn⟩ : ∃ n, n = z0.length := ⟨_, rfl⟩
        obtain ⟨m, hm⟩ : ∃ n, n = z1.length := ⟨_, rfl⟩
        rw [← hn] at h0 hl1 hlc0 l0 hl
        rw [← hm] at h1 hl1 hlc1 l1 hl
        rw [← hn, ← hm]
        have HN := Lib.hid hn
        have HM := Lib.hid hm
        have H0 := Lib.hid h0
        have H1 := Lib.hid h1
        clear hn hm h0 h1 hc0 hc1
        go_enter Try.func21, Try.ntmps21
        go_wp2_with fail
        refine (validRests_any _ _ z0 H0.out (by rw [← HN.out]; omega)).mono ?_; rintro e w' ⟨rfl, rfl⟩
        go_wp2_with fail
        refine (validRests_any _ _ z1 H1.out (by rw [← HM.out]; omega)).mono ?_; rintro e w' ⟨rfl, rfl⟩
        go_wp2_with fail
        go_ret
        exact ret_own (Own.nil _ _) HR.out (Below.refl _ _)
    · have g1' : vrests z1 = false := by simpa using g1
      have HR := Lib.hid (show resRingOf z0 z1 = [] by simp [resRingOf, okRingOf, g1'])
      clear g1
      go_enter Try.func21, Try.ntmps21
      go_wp2_with fail
      refine (validRests_any _ _ z0 h0 l0).mono ?_; rintro e w' ⟨rfl, rfl⟩
      go_wp2_with fail
      refine (validRests_any _ _ z1 h1 l1).mono ?_; rintro e w' ⟨rfl, rfl⟩
      go_wp2_with fail
      go_ret
      exact ret_own (Own.nil _ _) HR.out (Below.refl _ _)
  · have g0' : vrests z0 = false := by simpa using g0
    have HR := Lib.hid (show resRingOf z0 z1 = [] by simp [resRingOf, okRingOf, g0'])
    clear g0
    go_enter Try.func21, Try.ntmps21
    go_wp2_with fail
    refine (validRests_any _ _ z0 h0 l0).mono ?_; rintro e w' ⟨rfl, rfl⟩
    go_wp2_with fail
    go_ret
    exact ret_own (Own.nil _ _) HR.out (Below.refl _ _)
set_option maxHeartbeats 1600000 in
theorem implRingOf_any (w : World) (v0 : Value) (z0 : List Int) (h0 : Rd w v0 z0) (l0 : z0.length ≤ 1048576) (v1 : Value) (z1 : List Int) (h1 : Rd w v1 z1) (l1 : z1.length ≤ 1048576) :
    Calls Try.prog 22 #[v0, v1] w fun e w' => ∃ r, e = .returned r ∧ Own w' w.heap.size r (resRingOf z0 z1) ∧ Below w.heap.size w w' := by
  by_cases g0 : vrests z0 = true
  · by_cases g1 : vrests z1 = true
    · have HX := Lib.hid (restAll_of g0)
      have HY := Lib.hid (restAll_of g1)
      obtain ⟨n1, n2⟩ := vrests_len g0
      obtain ⟨m1, m2⟩ := vrests_len g1
      have e0 := h0
      have e1 := h1
      obtain ⟨a0, c0, rfl, hlc0, hm0, hc0⟩ := e0
      obtain ⟨a1, c1, rfl, hlc1, hm1, hc1⟩ := e1
      by_cases hl : z0.length = z1.length
      · have HR := Lib.hid (show ringTo z0.length z0 z1 z0.length = resRingOf z0 z1 by simp [resRingOf, okRingOf, g0, g1, hl])
        obtain ⟨b0, o0, rfl, k0⟩ := hc0.resolve_left (by intro hh; rw [hh] at n1; simp at n1)
        obtain ⟨b1, o1, rfl, k1⟩ := hc1.resolve_left (by intro hh; rw [hh] at m1; simp at m1)
        rw [← hl] at h1 l1 k1 hlc1 ⊢
        obtain ⟨n, hn⟩ : ∃ n, n = z0.length := ⟨_, rfl⟩
        rw [← hn] at h0 l0 HR n1 n2 hlc0 k0 h1 l1 k1 hlc1 hl ⊢
        have bl0 := World.block_lt_of_cell? w _ (k0 0 (by omega))
        have bl1 := World.block_lt_of_cell? w _ (k1 0 (by omega))
        have H0 := Lib.hid h0
        have H1 := Lib.hid h1
        have CX := Lib.hid k0
        have CY := Lib.hid k1
        have HN := Lib.hid hn
        have HL := Lib.hid hl
        clear k0 k1 hc0 hc1 h0 h1 hl hn
        have z3 : ¬ n = 0 := by omega
        go_enter Try.func22, Try.ntmps22
        go_wp2_with fail
        refine (implValidRests_any _ _ z0 H0.out (by rw [← HN.out]; omega)).mono ?_; rintro e w' ⟨rfl, rfl⟩
        go_wp2_with fail
        refine (implValidRests_any _ _ z1 H1.out (by rw [← HL.out]; omega)).mono ?_; rintro e w' ⟨rfl, rfl⟩
        go_wp2_with (at_make; refine wpList_mk rfl _ _ rfl n rfl rfl (by omega) ?_)
        intro w1 hrow hgrow
        have hb1 : Below w.heap.size w w1 := (Below.refl _ _).grown hgrow (Nat.le_refl _) (by simp)
        clear hgrow
        go_wp2
        go_loopw [6, 7, 8, 9, 10, 31] (fun _ _ _ _ _ i wr => ∃ m : Nat, m ≤ n ∧ i = .int .i64 m ∧ Row wr w.heap.size w.heap.size n n (ringTo n z0 z1 m) ∧ Below w.heap.size w wr) (fun _ _ _ _ _ i _ => n - (intOf i).toNat)
        case atStart => exact ⟨0, Nat.zero_le _, rfl, hrow, hb1⟩
        case round =>
          obtain ⟨m, hm, rfl, hr, hbel⟩ := hrel
          clear hrow hb1
          by_cases hlt : m < n
          · obtain ⟨wo, rfl⟩ : ∃ wo : World, wo = wr := ⟨_, rfl⟩
            have h3 : wo.cell? ⟨b0, o0 + m, none⟩ = some (.int .i64 (z0.getD m 0)) := (hbel.cell bl0).trans (CX.out m hlt)
            have rx := HX.out m
            obtain ⟨x, hx⟩ : ∃ x, x = z0.getD m 0 := ⟨_, rfl⟩
            rw [← hx] at h3 rx
            have HXX := Lib.hid hx
            clear hx
            go_wp2
            go_loopw [8, 9, 10, 38] (fun _ _ _ i wr => ∃ k : Nat, k ≤ n ∧ i = .int .i64 k ∧ Row wr w.heap.size w.heap.size n n (ringIn n z0 z1 m (ringTo n z0 z1 m) k) ∧ Below w.heap.size w wr) (fun _ _ _ i _ => n - (intOf i).toNat)
            case atStart => exact ⟨0, Nat.zero_le _, rfl, hr, hbel⟩
            case round =>
              obtain ⟨k, hk, rfl, hr', hbel'⟩ := hrel
              clear hr hbel h3
              by_cases hltk : k < n
              · have h4 : wr.cell? ⟨b1, o1 + k, none⟩ = some (.int .i64 (z1.getD k 0)) := (hbel'.cell bl1).trans (CY.out k hltk)
                obtain ⟨q, hq⟩ : ∃ q, q = (m + k) % n := ⟨_, rfl⟩
                have hqn : q < n := by rw [hq]; exact Nat.mod_lt _ (by omega)
                have HQ := Lib.hid hq
                have s2 : ((m : Int) + (k : Int)) % (n : Int) = (q : Int) := by rw [hq]; rfl
                clear hq
                have h1 := hr'.get q hqn
                have h2 := hr'.free q
                have ry := HY.out k
                have rz := ringIn_rest n z0 z1 m _ (ringTo_rest n z0 z1 m) k q
                obtain ⟨y, hy⟩ : ∃ y, y = z1.getD k 0 := ⟨_, rfl⟩
                obtain ⟨z, hz⟩ : ∃ z, z = (ringIn n z0 z1 m (ringTo n z0 z1 m) k).getD q 0 := ⟨_, rfl⟩
                rw [← hy] at h4 ry
                rw [← hz] at h1 rz
                have HE := Lib.hid (show (ringIn n z0 z1 m (ringTo n z0 z1 m) k).set q ((z + x * y) % 97) = ringIn n z0 z1 m (ringTo n z0 z1 m) (k + 1) by rw [HXX.out, hy, hz, HQ.out]; rfl)
                clear hy hz HQ
                obtain ⟨m0, m1⟩ := rest_mul rx ry
                have s3 : (0 : Int) ≤ (q : Int) := by omega
                have s4 : (q : Int) < (n : Int) := by omega
                go_wp2
                clear s2
                go_roundw
                case rel => exact ⟨k + 1, by omega, by go_num, by rw [← HE.out]; exact hr'.set q _, hbel'.setCell (Nat.le_refl _) _⟩
                case measure => simp [intOf]; omega
              · have e : k = n := by omega
                subst e
                clear hltk hk
                go_wp2
                go_roundw
                case rel => exact ⟨m + 1, by omega, by go_num, hr', hbel'⟩
                case measure => simp [intOf]; omega
          · go_wp2
            go_ret
            have e : m = n := by omega
            subst e
            exact ret_own hr.own HR.out.symm hbel
      · have HR := Lib.hid (show resRingOf z0 z1 = [] by simp [resRingOf, okRingOf, hl])
        have hl1 : ((z0.length : Int) != (z1.length : Int)) = true := by simp; omega
        have G0 := Lib.hid g0
        have G1 := Lib.hid g1
        obtain ⟨n, hn⟩ : ∃ n, n = z0.length := ⟨_, rfl⟩
        obtain ⟨m, hm⟩ : ∃ n, n = z1.length := ⟨_, rfl⟩
        rw [← hn] at h0 hl1 hlc0 l0 hl
        rw [← hm] at h1 hl1 hlc1 l1 hl
        rw [← hn, ← hm]
        have HN := Lib.hid hn
        have HM := Lib.hid hm
        have H0 := Lib.hid h0
        have H1 := Lib.hid h1
        clear hn hm h0 h1 hc0 hc1
        go_enter Try.func22, Try.ntmps22
        go_wp2_with fail
        refine (implValidRests_any _ _ z0 H0.out (by rw [← HN.out]; omega)).mono ?_; rintro e w' ⟨rfl, rfl⟩
        go_wp2_with fail
        refine (implValidRests_any _ _ z1 H1.out (by rw [← HM.out]; omega)).mono ?_; rintro e w' ⟨rfl, rfl⟩
        go_wp2_with fail
        go_ret
        exact ret_own (Own.nil _ _) HR.out (Below.refl _ _)
    · have g1' : vrests z1 = false := by simpa using g1
      have HR := Lib.hid (show resRingOf z0 z1 = [] by simp [resRingOf, okRingOf, g1'])
      clear g1
      go_enter Try.func22, Try.ntmps22
      go_wp2_with fail
      refine (implValidRests_any _ _ z0 h0 l0).mono ?_; rintro e w' ⟨rfl, rfl⟩
      go_wp2_with fail
      refine (implValidRests_any _ _ z1 h1 l1).mono ?_; rintro e w' ⟨rfl, rfl⟩
      go_wp2_with fail
      go_ret
      exact ret_own (Own.nil _ _) HR.out (Below.refl _ _)
  · have g0' : vrests z0 = false := by simpa using g0
    have HR := Lib.hid (show resRingOf z0 z1 = [] by simp [resRingOf, okRingOf, g0'])
    clear g0
    go_enter Try.func22, Try.ntmps22
    go_wp2_with fail
    refine (implValidRests_any _ _ z0 h0 l0).mono ?_; rintro e w' ⟨rfl, rfl⟩
    go_wp2_with fail
    go_ret
    exact ret_own (Own.nil _ _) HR.out (Below.refl _ _)
end Go.Proofs.Ytnhpcjghgnajhaa
