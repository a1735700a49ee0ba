/- Powers of rests, orders and roots: plain facts on whole numbers. No conditions. -/
namespace Go.Proofs.Ytlnjfgmodfkiiaa
/-- A power as a rest: what the loops of raise, power and raised compute. -/
def pw (x : Int) : Nat → Int
  | 0 => 1
  | k + 1 => pw x k * x % 97
theorem pw_nonneg (x : Int) (k : Nat) : 0 ≤ pw x k := by cases k <;> simp [pw] <;> omega
theorem pw_lt (x : Int) (k : Nat) : pw x k ≤ 96 := by cases k <;> simp [pw] <;> omega
theorem pw_mul_bd (x : Int) (k : Nat) (h0 : 0 ≤ x) (h1 : x ≤ 96) : 0 ≤ pw x k * x ∧ pw x k * x ≤ 9216 := by
  have a := pw_nonneg x k; have b := pw_lt x k
  refine ⟨Int.mul_nonneg a h0, ?_⟩
  calc pw x k * x ≤ 96 * x := Int.mul_le_mul_of_nonneg_right b h0
    _ ≤ 9216 := by omega
theorem pw_add (x : Int) (a b : Nat) : pw x (a + b) = pw x a * pw x b % 97 := by
  induction b with
  | zero =>
    have h0 := pw_nonneg x a; have h1 := pw_lt x a
    simp only [Nat.add_zero, pw, Int.mul_one]; omega
  | succ b ih =>
    rw [← Nat.add_assoc]; simp only [pw]; rw [ih]
    rw [Int.mul_emod, Int.emod_emod, ← Int.mul_emod, Int.mul_assoc, Int.mul_emod (pw x a) (pw x b * x % 97), Int.emod_emod, ← Int.mul_emod]
theorem pw_per (x : Int) (a q : Nat) (h : pw x a = 1) : pw x (a * q) = 1 := by
  induction q with
  | zero => rfl
  | succ q ih => rw [Nat.mul_add, Nat.mul_one, pw_add, ih, h]; rfl
theorem pw_mod (x : Int) (a n : Nat) (h : pw x a = 1) : pw x n = pw x (n % a) := by
  have e := Nat.div_add_mod n a
  have h0 := pw_nonneg x (n % a); have h1 := pw_lt x (n % a)
  conv => lhs; rw [← e, pw_add, pw_per x a _ h]
  omega
/-- The order of a rest: the least n from 1 on with power 1. -/
def ordFrom (x : Int) : Nat → Nat → Nat
  | 0, k => k
  | f + 1, k => if pw x k = 1 then k else ordFrom x f (k + 1)
def ordN (x : Int) : Nat := ordFrom x 95 1
theorem ordFrom_bd (x : Int) (f k : Nat) : k ≤ ordFrom x f k ∧ ordFrom x f k ≤ k + f := by
  induction f generalizing k with
  | zero => simp [ordFrom]
  | succ f ih => have := ih (k + 1); simp only [ordFrom]; split <;> omega
theorem ordFrom_least (x : Int) (f k j : Nat) (h1 : k ≤ j) (h2 : j < ordFrom x f k) : pw x j ≠ 1 := by
  induction f generalizing k with
  | zero => simp [ordFrom] at h2; omega
  | succ f ih =>
    simp only [ordFrom] at h2
    split at h2
    · omega
    · by_cases e : k = j
      · subst e; assumption
      · exact ih (k + 1) (by omega) h2
theorem ordFrom_hit (x : Int) (f k : Nat) (h : pw x (k + f) = 1) : pw x (ordFrom x f k) = 1 := by
  induction f generalizing k with
  | zero => simpa [ordFrom] using h
  | succ f ih =>
    simp only [ordFrom]
    split
    · assumption
    · exact ih (k + 1) (by rw [← h]; congr 1; omega)
theorem fermat_all : ∀ x : Nat, x < 97 → x ≠ 0 → pw x 96 = 1 := by decide +kernel
theorem ord_spec (x : Int) (h0 : 1 ≤ x) (h1 : x ≤ 96) : 1 ≤ ordN x ∧ ordN x ≤ 96 ∧ pw x (ordN x) = 1 ∧ (∀ k, k < ordN x → k ≠ 0 → pw x k ≠ 1) ∧ 96 % ordN x = 0 := by
  have hf : pw x 96 = 1 := by
    obtain ⟨n, rfl⟩ := Int.eq_ofNat_of_zero_le (show 0 ≤ x by omega)
    exact fermat_all n (by omega) (by omega)
  have hb := ordFrom_bd x 95 1
  have hh : pw x (ordN x) = 1 := ordFrom_hit x 95 1 hf
  have hl : ∀ k, k < ordN x → k ≠ 0 → pw x k ≠ 1 := fun k a b => ordFrom_least x 95 1 k (by omega) a
  refine ⟨hb.1, hb.2, hh, hl, ?_⟩
  have hm := pw_mod x (ordN x) 96 hh
  rw [hf] at hm
  have hlt : 96 % ordN x < ordN x := Nat.mod_lt _ hb.1
  by_cases e : 96 % ordN x = 0
  · exact e
  · exact absurd hm.symm (hl _ hlt e)
theorem ord_eq (x : Int) (n : Nat) (h0 : 1 ≤ x) (h1 : x ≤ 96) (hn : n ≠ 0) (hp : pw x n = 1) (hl : ∀ k, k < n → k ≠ 0 → pw x k ≠ 1) : ordN x = n := by
  obtain ⟨a, b, c, d, _⟩ := ord_spec x h0 h1
  have u : ¬ ordN x < n := fun h => hl _ h (by omega) c
  have v : ¬ n < ordN x := fun h => d _ h hn hp
  omega
/-- The least rest of an order. -/
def rootFrom (n : Nat) : Nat → Nat → Nat
  | 0, k => k
  | f + 1, k => if ordN (k : Int) = n then k else rootFrom n f (k + 1)
def rootN (n : Nat) : Nat := rootFrom n 95 1
theorem rootFrom_bd (n f k : Nat) : k ≤ rootFrom n f k ∧ rootFrom n f k ≤ k + f := by
  induction f generalizing k with
  | zero => simp [rootFrom]
  | succ f ih => have := ih (k + 1); simp only [rootFrom]; split <;> omega
theorem rootFrom_least (n f k j : Nat) (h1 : k ≤ j) (h2 : j < rootFrom n f k) : ordN (j : Int) ≠ n := by
  induction f generalizing k with
  | zero => simp [rootFrom] at h2; omega
  | succ f ih =>
    simp only [rootFrom] at h2
    split at h2
    · omega
    · by_cases e : k = j
      · subst e; assumption
      · exact ih (k + 1) (by omega) h2
/-- The order, by one product a step. -/
def ordGo (x : Nat) : Nat → Nat → Nat → Nat
  | 0, _, k => k
  | f + 1, a, k => if a = 1 then k else ordGo x f (a * x % 97) (k + 1)
theorem ordGo_eq (x f a k : Nat) (h : (a : Int) = pw x k) : ordGo x f a k = ordFrom x f k := by
  induction f generalizing a k with
  | zero => rfl
  | succ f ih =>
    simp only [ordGo, ordFrom, ← h]
    have e : ((a : Int) = 1) = (a = 1) := by rw [eq_iff_iff]; omega
    simp only [e]
    split
    · rfl
    · exact ih _ _ (by simp only [pw, ← h]; omega)
def rootGo (n : Nat) : Nat → Nat → Nat
  | 0, k => k
  | f + 1, k => if ordGo k 95 (k % 97) 1 = n then k else rootGo n f (k + 1)
theorem ordGo_ord (k : Nat) : ordGo k 95 (k % 97) 1 = ordN k := ordGo_eq k 95 _ 1 (by simp only [pw, Int.one_mul]; omega)
theorem rootGo_eq (n f k : Nat) : rootGo n f k = rootFrom n f k := by
  induction f generalizing k with
  | zero => rfl
  | succ f ih => simp only [rootGo, rootFrom, ordGo_ord, ih]
theorem root_tab : ∀ n : Nat, n < 97 → n ≠ 0 → 96 % n = 0 → ordGo (rootGo n 95 1) 95 (rootGo n 95 1 % 97) 1 = n := by decide +kernel
theorem root_hit (n : Nat) (h1 : n < 97) (h2 : n ≠ 0) (h3 : 96 % n = 0) : ordN ((rootN n : Nat) : Int) = n := by
  have h := root_tab n h1 h2 h3
  rwa [ordGo_ord, rootGo_eq] at h
theorem root_spec (n : Nat) (h1 : n ≤ 96) (h2 : n ≠ 0) (h3 : 96 % n = 0) : 1 ≤ rootN n ∧ rootN n ≤ 96 ∧ ordN ((rootN n : Nat) : Int) = n ∧ (∀ k : Nat, k < rootN n → k ≠ 0 → ordN (k : Int) ≠ n) :=
  have hb := rootFrom_bd n 95 1
  ⟨hb.1, hb.2, root_hit n (by omega) h2 h3, fun k a b => rootFrom_least n 95 1 k (by omega) a⟩
end Go.Proofs.Ytlnjfgmodfkiiaa
