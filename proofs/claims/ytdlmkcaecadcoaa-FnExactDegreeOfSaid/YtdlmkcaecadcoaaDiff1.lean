/- differences: each number less the one ahead of it. Conditions: numbers within a bound of 2^40. -/
import Derived.Test.YtdlmkcaecadcoaaRow1
import Derived.Test.YtdlmkcaecadcoaaMem
namespace Go.Proofs.Ytdlmkcaecadcoaa
open Go.RowKit
/-- The first k differences. -/
def difTo (zs : List Int) : Nat → List Int
  | 0 => []
  | k + 1 => difTo zs k ++ [zs.getD (k + 1) 0 - zs.getD k 0]
def dif (zs : List Int) : List Int := difTo zs (zs.length - 1)
theorem difTo_len (zs : List Int) (k : Nat) : (difTo zs k).length = k := by
  induction k with
  | zero => rfl
  | succ k ih => simp [difTo, ih]
theorem dif_len (zs : List Int) : (dif zs).length = zs.length - 1 := difTo_len _ _
/-- All numbers are within M. -/
def within (M : Int) (zs : List Int) : Prop := ∀ j, -M ≤ zs.getD j 0 ∧ zs.getD j 0 ≤ M
theorem within_row {zs : List Int} (h : vrow zs = true) : within 1000 zs := vrow_all h
theorem within_nil {M : Int} (h : 0 ≤ M) : within M [] := fun j => by simp; omega
theorem within_snoc {M : Int} {zs : List Int} {x : Int} (h : within M zs) (h1 : -M ≤ x) (h2 : x ≤ M) : within M (zs ++ [x]) := by
  intro j
  have := h j
  simp only [List.getD_eq_getElem?_getD, List.getElem?_append] at *
  split
  · exact this
  · rename_i hj
    by_cases e : j - zs.length = 0
    · rw [e]; simp; omega
    · rw [List.getElem?_eq_none (by simp; omega)]; simp; omega
theorem within_difTo {M : Int} {zs : List Int} (h0 : 0 ≤ M) (h : within M zs) (k : Nat) : within (2 * M) (difTo zs k) := by
  induction k with
  | zero => exact within_nil (by omega)
  | succ k ih => have a := h k; have b := h (k + 1); exact within_snoc ih (by omega) (by omega)
theorem within_dif {M : Int} {zs : List Int} (h0 : 0 ≤ M) (h : within M zs) : within (2 * M) (dif zs) := within_difTo h0 h _
set_option maxHeartbeats 800000 in
theorem differences_any (w : World) (v : Value) (zs : List Int) (h : Rd w v zs) (hl : zs.length ≤ 16) (M : Int) (_hM0 : 0 ≤ M) (_hM : M ≤ 1000000000000) (hw : within M zs) :
    Calls Try.prog 46 #[v] w fun e w' => ∃ r, e = .returned r ∧ Own w' w.heap.size r (dif zs) ∧ Below w.heap.size w w' := by
  have HB := Lib.hid hw
  obtain ⟨a, cap, rfl, hlc, hm, hc⟩ := h
  have HR := Lib.hid (show dif zs = difTo zs (zs.length - 1) from rfl)
  obtain ⟨n, hn⟩ : ∃ n, n = zs.length := ⟨_, rfl⟩
  rw [← hn] at hlc hl HR ⊢
  have HN := Lib.hid hn
  have HC := Lib.hid hc
  clear hc hn hm hw
  go_enter Try.func46, Try.ntmps46
  go_wp2
  go_loopw [3, 4] (fun u i wr => ∃ k : Nat, k ≤ n - 1 ∧ i = .int .i64 ((k : Int) + 1) ∧ Own wr w.heap.size u (difTo zs k) ∧ Below w.heap.size w wr) (fun _ i _ => n - (intOf i).toNat)
  case atStart => exact ⟨0, Nat.zero_le _, rfl, Own.lit0 w (Nat.le_refl _), (Below.refl _ _).alloc (Nat.le_refl _) _⟩
  case round =>
    obtain ⟨k, hk, rfl, hown, hbel⟩ := hrel
    by_cases hlt : k + 1 < n
    · obtain ⟨b, o, rfl, hcell⟩ := HC.out.resolve_left (by intro h0; have := HN.out; rw [h0] at this; simp at this; omega)
      have hbl := World.block_lt_of_cell? w _ (hcell k (by rw [← HN.out]; omega))
      have h1 : wr.cell? ⟨b, o + k, none⟩ = some (.int .i64 (zs.getD k 0)) := (hbel.cell hbl).trans (hcell k (by rw [← HN.out]; omega))
      have h2 : wr.cell? ⟨b, o + (k + 1), none⟩ = some (.int .i64 (zs.getD (k + 1) 0)) := (hbel.cell (p := ⟨b, o + (k + 1), none⟩) hbl).trans (hcell (k + 1) (by rw [← HN.out]; omega))
      clear hcell HC
      have hb1 := HB.out k
      have hb2 := HB.out (k + 1)
      have hz := hbel.size
      have HL := Lib.hid (difTo_len zs k)
      obtain ⟨x, hx⟩ : ∃ x, x = zs.getD k 0 := ⟨_, rfl⟩
      obtain ⟨y, hy⟩ : ∃ y, y = zs.getD (k + 1) 0 := ⟨_, rfl⟩
      rw [← hx] at h1 hb1
      rw [← hy] at h2 hb2
      have HX := Lib.hid (show difTo zs (k + 1) = difTo zs k ++ [y - x] by rw [hx, hy]; rfl)
      clear hx hy
      have s0 : (0 : Int) ≤ (k : Int) := by omega
      have s1 : (k : Int) < (n : Int) := by omega
      have s2 : (k : Int) + 1 < (n : Int) := by omega
      have s3 : ((k : Int) + 1).toNat = k + 1 := by omega
      have s4 : (0 : Int) ≤ (k : Int) + 1 := by omega
      have s5 : IntKind.i64.wrap (k : Int) = (k : Int) := IntWalk.i64_in _ (by omega)
      have s6 : IntKind.i64.wrap (y - x) = y - x := IntWalk.i64_in _ (by omega)
      have hlen : (difTo zs k).length ≤ 1048576 := by rw [HL.out]; omega
      go_wp2
      go_region_held3 (fun w' => w'.cell? ⟨b, o + k, none⟩ = some (.int .i64 x) ∧ w'.cell? ⟨b, o + (k + 1), none⟩ = some (.int .i64 y)) (first | go_keep | (go_split_ands; exact ⟨(cell_app hg (hown.alloc' _).drew hbl (by simp; omega)).trans (by assumption), (cell_app hg (hown.alloc' _).drew hbl (by simp; omega)).trans (by assumption)⟩)) ((refine step_app (by rfl) _ _ (by rfl) w.heap.size wr.heap.size u3 (difTo zs k) (y - x) (by rfl) ((hown.alloc' _).drew) (by rfl) (by simp) hlen (by simp; omega) ?_; intro v' w1 hown' hg))
      have hbel' := below_app' hbel hown hz hg
      clear hg hown hbel s3 s5 s6 hlen h1 h2
      go_wp2
      go_roundw
      case rel => exact ⟨k + 1, by omega, by go_num, by rw [HX.out]; exact hown', hbel'⟩
      case measure => simp [intOf]; omega
    · go_wp2
      go_ret
      have e : k = n - 1 := by omega
      exact ret_own hown (by rw [HR.out, e]) hbel
end Go.Proofs.Ytdlmkcaecadcoaa
