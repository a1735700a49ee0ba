/- Sums of sets round a circle of 13 places are many; their counts add up to the pairs: in plain numbers. No conditions. -/
import Derived.Test.YtfbflokkjgbabaaSum6
import Derived.Test.YtfbflokkjgbabaaOnes6
namespace Go.Proofs.Ytfbflokkjgbabaa
open Go.RowKit
/-- How many of the first n places a set has. -/
def cnt : Nat → (Nat → Bool) → Nat
  | 0, _ => 0
  | n + 1, S => cnt n S + (S n).toNat
theorem cnt_le (n : Nat) (S : Nat → Bool) : cnt n S ≤ n := by
  induction n with
  | zero => exact Nat.le_refl _
  | succ n ih => simp only [cnt]; have := Bool.toNat_le (S n); omega
theorem cnt_congr {n : Nat} {S T : Nat → Bool} (h : ∀ i, i < n → S i = T i) : cnt n S = cnt n T := by
  induction n with
  | zero => rfl
  | succ n ih => simp only [cnt]; rw [ih (fun i hi => h i (by omega)), h n (by omega)]
theorem cnt_oa (n : Nat) (S T : Nat → Bool) : cnt n (fun i => S i || T i) + cnt n (fun i => S i && T i) = cnt n S + cnt n T := by
  induction n with
  | zero => rfl
  | succ n ih =>
    simp only [cnt]
    have : (S n || T n).toNat + (S n && T n).toNat = (S n).toNat + (T n).toNat := by cases S n <;> cases T n <;> rfl
    omega
theorem cnt_mono {n : Nat} {S T : Nat → Bool} (h : ∀ i, i < n → S i = true → T i = true) : cnt n S ≤ cnt n T := by
  induction n with
  | zero => exact Nat.le_refl _
  | succ n ih =>
    simp only [cnt]
    have a := ih (fun i hi => h i (by omega))
    have b : (S n).toNat ≤ (T n).toNat := by
      cases e : S n with
      | false => exact Nat.zero_le _
      | true => rw [h n (by omega) e]; exact Nat.le_refl _
    omega
theorem cnt_lt {n : Nat} {S T : Nat → Bool} (h : ∀ i, i < n → S i = true → T i = true) (k : Nat) (hk : k < n) (h1 : S k = false) (h2 : T k = true) : cnt n S < cnt n T := by
  induction n with
  | zero => omega
  | succ n ih =>
    simp only [cnt]
    by_cases e : k = n
    · subst e
      have a := cnt_mono (n := k) (fun i hi => h i (by omega))
      rw [h1, h2]; show _ + 0 < _ + 1; omega
    · have a := ih (fun i hi => h i (by omega)) (by omega)
      have b : (S n).toNat ≤ (T n).toNat := by
        cases e : S n with
        | false => exact Nat.zero_le _
        | true => rw [h n (by omega) e]; exact Nat.le_refl _
      omega
theorem cnt_all {n : Nat} {S : Nat → Bool} (h : ∀ i, i < n → S i = true) : cnt n S = n := by
  induction n with
  | zero => rfl
  | succ n ih => simp only [cnt]; rw [ih (fun i hi => h i (by omega)), h n (by omega)]; rfl
theorem cnt_one (n b : Nat) : cnt n (fun i => i == b) ≤ 1 := by
  have : cnt n (fun i => i == b) = if b < n then 1 else 0 := by
    induction n with
    | zero => rfl
    | succ n ih =>
      simp only [cnt]; rw [ih]
      by_cases e : n = b
      · subst e; simp
      · have : (n == b) = false := by simpa using e
        rw [this]
        by_cases h : b < n
        · rw [if_pos h, if_pos (by omega)]; rfl
        · rw [if_neg h, if_neg (by omega)]; rfl
  rw [this]; split <;> omega
/-- The set moved by e places. -/
def mv (e : Nat) (S : Nat → Bool) : Nat → Bool := fun i => S ((i + 13 - e) % 13)
theorem cnt_mv (e : Nat) (he : e < 13) (S : Nat → Bool) : cnt 13 (mv e S) = cnt 13 S := by
  have hs : ∀ T : Nat → Bool, cnt 13 T = (T 0).toNat + (T 1).toNat + (T 2).toNat + (T 3).toNat + (T 4).toNat + (T 5).toNat + (T 6).toNat + (T 7).toNat + (T 8).toNat + (T 9).toNat + (T 10).toNat + (T 11).toNat + (T 12).toNat := by
    intro T; simp only [cnt]; omega
  rw [hs, hs]
  unfold mv
  match e, he with
  | 0, _ | 1, _ | 2, _ | 3, _ | 4, _ | 5, _ | 6, _ | 7, _ | 8, _ | 9, _ | 10, _ | 11, _ | 12, _ => first | (simp only [Nat.reduceAdd, Nat.reduceSub, Nat.reduceMod]; done) | (simp only [Nat.reduceAdd, Nat.reduceSub, Nat.reduceMod]; omega)
theorem orbit : ∀ d, d < 13 → 0 < d → ∀ a, a < 13 → ∀ t, t < 13 → ∃ k, k < 13 ∧ (a + k * d) % 13 = t := by decide +kernel
theorem closed {A : Nat → Bool} {d a : Nat} (ha : a < 13) (h0 : A a = true) (h : ∀ x, x < 13 → A x = true → A ((x + d) % 13) = true) (k : Nat) : A ((a + k * d) % 13) = true := by
  induction k with
  | zero => rw [show (a + 0 * d) % 13 = a by omega]; exact h0
  | succ k ih =>
    have := h _ (Nat.mod_lt _ (by omega)) ih
    rw [show (a + (k + 1) * d) % 13 = ((a + k * d) % 13 + d) % 13 by rw [Nat.succ_mul]; omega]
    exact this
/-- Sums of two sets round a circle of 13 places are many. -/
theorem many (n : Nat) : ∀ (A B C : Nat → Bool), cnt 13 B ≤ n → (∃ a, a < 13 ∧ A a = true) → (∃ b, b < 13 ∧ B b = true) →
    (∀ x y, x < 13 → y < 13 → A x = true → B y = true → C ((x + y) % 13) = true) → 13 ≤ cnt 13 C ∨ cnt 13 A + cnt 13 B ≤ cnt 13 C + 1 := by
  induction n with
  | zero =>
    intro A B C hn _ ⟨b, hb, hB⟩ _
    have := cnt_lt (n := 13) (S := fun _ => false) (T := B) (fun i _ h => by cases h) b hb rfl hB
    omega
  | succ n ih =>
    intro A B C hn ⟨a0, ha0, hA0⟩ ⟨b1, hb1, hB1⟩ hC
    by_cases hone : ∀ y, y < 13 → B y = true → y = b1
    · right
      have h1 : cnt 13 B ≤ 1 := Nat.le_trans (cnt_mono (T := fun i => i == b1) (fun i hi h => by simpa using hone i hi h)) (cnt_one 13 b1)
      have h2 : cnt 13 (mv b1 A) ≤ cnt 13 C := cnt_mono (fun i hi h => by
        have := hC _ b1 (Nat.mod_lt (i + 13 - b1) (by omega)) hb1 h hB1
        rw [show ((i + 13 - b1) % 13 + b1) % 13 = i by omega] at this
        exact this)
      rw [cnt_mv b1 hb1] at h2
      omega
    · obtain ⟨b2, hb2, hB2, hne⟩ : ∃ y, y < 13 ∧ B y = true ∧ y ≠ b1 := by
        apply Classical.byContradiction
        intro hh
        exact hone fun y hy h => Classical.byContradiction fun hn => hh ⟨y, hy, h, hn⟩
      by_cases hcl : ∀ x, x < 13 → A x = true → A ((x + (b2 + 13 - b1) % 13) % 13) = true
      · left
        have hall : ∀ t, t < 13 → A t = true := by
          intro t ht
          obtain ⟨k, _, hk⟩ := orbit ((b2 + 13 - b1) % 13) (by omega) (by omega) a0 ha0 t ht
          rw [← hk]
          exact closed ha0 hA0 hcl k
        have := cnt_all (n := 13) (S := C) (fun i hi => by
          have := hC ((i + 13 - b1) % 13) b1 (Nat.mod_lt _ (by omega)) hb1 (hall _ (Nat.mod_lt _ (by omega))) hB1
          rw [show ((i + 13 - b1) % 13 + b1) % 13 = i by omega] at this
          exact this)
        omega
      · obtain ⟨a, ha, hA, hnA⟩ : ∃ x, x < 13 ∧ A x = true ∧ A ((x + (b2 + 13 - b1) % 13) % 13) = false := by
          apply Classical.byContradiction
          intro hh
          exact hcl fun x hx h => by
            cases e : A ((x + (b2 + 13 - b1) % 13) % 13) with
            | true => rfl
            | false => exact absurd ⟨x, hx, h, e⟩ hh
        obtain ⟨e, he, hlt⟩ : ∃ e, e = (a + 13 - b1) % 13 ∧ e < 13 := ⟨_, rfl, Nat.mod_lt _ (by omega)⟩
        have hoa := cnt_oa 13 A (mv e B)
        rw [cnt_mv e hlt] at hoa
        have hB' : cnt 13 (fun i => A i && mv e B i) < cnt 13 (mv e B) := cnt_lt (fun i _ h => by simp only [Bool.and_eq_true] at h; exact h.2) ((b2 + e) % 13) (Nat.mod_lt _ (by omega))
          (by rw [show (b2 + e) % 13 = (a + (b2 + 13 - b1) % 13) % 13 by omega, hnA]; rfl)
          (by show B (((b2 + e) % 13 + 13 - e) % 13) = true; rw [show ((b2 + e) % 13 + 13 - e) % 13 = b2 by omega]; exact hB2)
        rw [cnt_mv e hlt] at hB'
        have hBa : mv e B a = true := by show B ((a + 13 - e) % 13) = true; rw [show (a + 13 - e) % 13 = b1 by omega]; exact hB1
        have := ih (fun i => A i || mv e B i) (fun i => A i && mv e B i) (mv e C) (by omega) ⟨a0, ha0, by simp [hA0]⟩ ⟨a, ha, by simp [hA, hBa]⟩ (by
          intro x y hx hy h1 h2
          simp only [Bool.and_eq_true] at h2
          simp only [Bool.or_eq_true] at h1
          show C (((x + y) % 13 + 13 - e) % 13) = true
          rcases h1 with h1 | h1
          · have := hC x ((y + 13 - e) % 13) hx (Nat.mod_lt _ (by omega)) h1 h2.2
            rw [show (x + (y + 13 - e) % 13) % 13 = ((x + y) % 13 + 13 - e) % 13 by omega] at this
            exact this
          · have := hC y ((x + 13 - e) % 13) hy (Nat.mod_lt _ (by omega)) h2.1 h1
            rw [show (y + (x + 13 - e) % 13) % 13 = ((x + y) % 13 + 13 - e) % 13 by omega] at this
            exact this)
        rw [cnt_mv e hlt] at this
        omega

theorem ssIn_test {a b x z : Nat} (k j : Nat) : (ssIn a b x z k).testBit j = true ↔ z.testBit j = true ∨ ∃ y, y < k ∧ a.testBit x = true ∧ b.testBit y = true ∧ pl x y = j := by
  induction k with
  | zero => simp [ssIn]
  | succ k ih =>
    by_cases h : bitN a x = 1 ∧ bitN b k = 1
    · rw [ssIn_yes h.1 h.2, test_or, Bool.or_eq_true, ih, decide_eq_true_eq]
      constructor
      · rintro ((h1 | ⟨y, h1, h2⟩) | h1)
        · exact .inl h1
        · exact .inr ⟨y, by omega, h2⟩
        · exact .inr ⟨k, by omega, by rw [bitN_test]; simp [h.1], by rw [bitN_test]; simp [h.2], h1⟩
      · rintro (h1 | ⟨y, h1, h2⟩)
        · exact .inl (.inl h1)
        · by_cases e : y = k
          · subst e; exact .inr h2.2.2
          · exact .inl (.inr ⟨y, by omega, h2⟩)
    · have hb1 := bitN_le a x
      have hb2 := bitN_le b k
      rw [ssIn_no (by omega), ih]
      constructor
      · rintro (h1 | ⟨y, h1, h2⟩)
        · exact .inl h1
        · exact .inr ⟨y, by omega, h2⟩
      · rintro (h1 | ⟨y, h1, h2⟩)
        · exact .inl h1
        · by_cases e : y = k
          · subst e
            rw [bitN_test, bitN_test, decide_eq_true_eq, decide_eq_true_eq] at h2
            exact absurd ⟨h2.1, h2.2.1⟩ h
          · exact .inr ⟨y, by omega, h2⟩
theorem ssTo_test (a b x j : Nat) : (ssTo a b x).testBit j = true ↔ ∃ u y, u < x ∧ y < 13 ∧ a.testBit u = true ∧ b.testBit y = true ∧ pl u y = j := by
  induction x with
  | zero => simp [ssTo]
  | succ x ih =>
    rw [show ssTo a b (x + 1) = ssIn a b x (ssTo a b x) 13 from rfl, ssIn_test, ih]
    constructor
    · rintro (⟨u, y, h1, h2⟩ | ⟨y, h1, h2⟩)
      · exact ⟨u, y, by omega, h2⟩
      · exact ⟨x, y, by omega, h1, h2⟩
    · rintro ⟨u, y, h1, h2, h3⟩
      by_cases e : u = x
      · subst e; exact .inr ⟨y, h2, h3⟩
      · exact .inl ⟨u, y, by omega, h2, h3⟩
theorem ss_comm (a b : Nat) : ssTo a b 13 = ssTo b a 13 := by
  apply Nat.eq_of_testBit_eq
  intro j
  rw [Bool.eq_iff_iff, ssTo_test, ssTo_test]
  constructor
  · rintro ⟨u, y, h1, h2, h3, h4, h5⟩; exact ⟨y, u, h2, h1, h4, h3, by rw [← h5]; unfold pl; rw [Nat.add_comm]⟩
  · rintro ⟨u, y, h1, h2, h3, h4, h5⟩; exact ⟨y, u, h2, h1, h4, h3, by rw [← h5]; unfold pl; rw [Nat.add_comm]⟩
theorem ss_zero (b : Nat) : ssTo 0 b 13 = 0 := by
  apply Nat.eq_of_testBit_eq
  intro j
  rw [Bool.eq_iff_iff, ssTo_test]
  simp
theorem cnt_cons (n : Nat) (S : Nat → Bool) : cnt (n + 1) S = (S 0).toNat + cnt n (fun i => S (i + 1)) := by
  induction n with
  | zero => simp [cnt]
  | succ n ih => rw [cnt, ih]; simp only [cnt]; omega
theorem popF_cnt (n : Nat) : ∀ x, popF n x = cnt n (fun i => x.testBit i) := by
  induction n with
  | zero => intro x; rfl
  | succ n ih =>
    intro x
    rw [popF_step, cnt_cons, ih]
    have h0 : (x.testBit 0).toNat = x % 2 := by
      rw [Nat.testBit_zero]
      have : x % 2 < 2 := Nat.mod_lt _ (by omega)
      rcases (show x % 2 = 0 ∨ x % 2 = 1 by omega) with h | h <;> rw [h] <;> rfl
    rw [h0]
    congr 1
    exact cnt_congr fun i _ => by rw [Nat.testBit_succ]
theorem pop_cnt (x : Nat) : popN x = cnt 13 (fun i => x.testBit i) := popF_cnt 13 x
theorem some_bit {x : Nat} (h : x ≠ 0) (h2 : x < 2 ^ 13) : ∃ i, i < 13 ∧ x.testBit i = true := by
  apply Classical.byContradiction
  intro hn
  apply h
  apply Nat.eq_of_testBit_eq
  intro i
  rw [Nat.zero_testBit]
  by_cases hi : i < 13
  · cases e : x.testBit i with
    | false => rfl
    | true => exact absurd ⟨i, hi, e⟩ hn
  · exact Nat.testBit_lt_two_pow (Nat.lt_of_lt_of_le h2 (Nat.pow_le_pow_right (by omega) (by omega)))
theorem ss_many {a b : Nat} (ha : a ≠ 0) (hb : b ≠ 0) (ha2 : a ≤ 8191) (hb2 : b ≤ 8191) : 13 ≤ popN (ssTo a b 13) ∨ popN a + popN b ≤ popN (ssTo a b 13) + 1 := by
  have e : (2 : Nat) ^ 13 = 8192 := by decide
  rw [pop_cnt, pop_cnt, pop_cnt]
  exact many 13 _ _ _ (cnt_le 13 _) (some_bit ha (by omega)) (some_bit hb (by omega)) fun x y hx hy h1 h2 => (ssTo_test a b 13 _).2 ⟨x, y, hx, hy, h1, h2, rfl⟩
/-- The sum of the first k numbers. -/
def tt (l : List Int) : Nat → Int
  | 0 => 0
  | k + 1 => tt l k + l.getD k 0
theorem tt_set {l : List Int} {q : Nat} (d : Int) (hq : q < l.length) (n : Nat) : tt (l.set q (l.getD q 0 + d)) n = tt l n + if q < n then d else 0 := by
  induction n with
  | zero => simp [tt]
  | succ n ih =>
    simp only [tt]; rw [ih, getD_set hq]
    by_cases e : n = q
    · subst e; rw [if_neg (by omega), if_pos rfl, if_pos (by omega)]; omega
    · rw [if_neg e]
      by_cases h : q < n
      · rw [if_pos h, if_pos (by omega)]; omega
      · rw [if_neg h, if_neg (by omega)]; omega
/-- The sum of the first k digits. -/
def bs (b : Nat) : Nat → Nat
  | 0 => 0
  | k + 1 => bs b k + bitN b k
theorem bs_pop (b : Nat) : bs b 13 = popN b := by
  rw [pop_cnt]
  have : ∀ n, bs b n = cnt n (fun i => b.testBit i) := by
    intro n
    induction n with
    | zero => rfl
    | succ n ih =>
      simp only [bs, cnt]; rw [ih, bitN_test]
      have h := bitN_le b n
      rcases (show bitN b n = 0 ∨ bitN b n = 1 by omega) with h | h <;> rw [h] <;> rfl
  exact this 13
theorem tt_in {a b x : Nat} {l : List Int} (hl : l.length = 13) (k : Nat) : tt (scIn a b x l k) 13 = tt l 13 + (bitN a x * bs b k : Nat) := by
  induction k with
  | zero => simp [scIn, bs]
  | succ k ih =>
    have hlen : (scIn a b x l k).length = 13 := by rw [scIn_len, hl]
    have hq := pl_lt x k
    rw [show scIn a b x l (k + 1) = (scIn a b x l k).set (pl x k) ((scIn a b x l k).getD (pl x k) 0 + (bitN a x * bitN b k : Nat)) from rfl, tt_set _ (by omega), ih, if_pos hq, bs, Nat.mul_add]
    omega
theorem tt_to (a b x : Nat) : tt (scTo a b x) 13 = (bs a x * popN b : Nat) := by
  induction x with
  | zero =>
    have h0 : ∀ n, tt (List.replicate 13 (0 : Int)) n = 0 := by
      intro n
      induction n with
      | zero => rfl
      | succ n ih =>
        simp only [tt]; rw [ih, List.getD_eq_getElem?_getD, List.getElem?_replicate]
        split <;> rfl
    show tt (List.replicate 13 (0 : Int)) 13 = _
    rw [h0]; simp [bs]
  | succ x ih =>
    rw [show scTo a b (x + 1) = scIn a b x (scTo a b x) 13 from rfl, tt_in (scTo_len a b x), ih, bs_pop, bs, Nat.add_mul]
    omega
theorem tt_all (a b : Nat) : tt (scTo a b 13) 13 = (popN a * popN b : Nat) := by rw [tt_to, bs_pop]
theorem tt_bd {l : List Int} {M : Int} (h : cntB M l) (k : Nat) : 0 ≤ tt l k ∧ tt l k ≤ M * k := by
  induction k with
  | zero => simp [tt]
  | succ k ih => have := h k; simp only [tt]; rw [show M * ((k + 1 : Nat) : Int) = M * k + M by rw [Int.natCast_add, Int.mul_add]; omega]; omega
theorem sc_bit (a b x : Nat) : (0 < (scTo a b 13).getD x 0) ↔ ssTo a b 13 / pw2 x % 2 = 1 := by
  rw [← agree_to a b 13 x, bitN_test, decide_eq_true_eq]; rfl
end Go.Proofs.Ytfbflokkjgbabaa
