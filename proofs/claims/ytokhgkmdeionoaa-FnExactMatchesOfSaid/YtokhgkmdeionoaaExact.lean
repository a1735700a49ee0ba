/- The helpers of the exact statements: toIntS copies, eqIntS compares, markIntS writes marks, heldIntS looks for them. Conditions: at most 1048576 numbers. -/
import Derived.Test.YtokhgkmdeionoaaBase
namespace Go.Proofs.Ytokhgkmdeionoaa
open Go.RowKit
theorem eqInt_ne (a a' : Option Addr) (n n' c c' : Nat) (w : World) (h : n ≠ n') (_h1 : n ≤ maxLen) (_h2 : n' ≤ maxLen) :
    Calls Try.prog 16 #[.slice a n c, .slice a' n' c'] w fun e w' => e = .returned (.bool false) ∧ Quiet w w' := by
  unfold maxLen at _h1 _h2
  go_enter Try.func16, Try.ntmps16
  go_wp2
  go_ret
  exact ⟨rfl, Quiet.refl _⟩
theorem eqInt_nil (a a' : Option Addr) (c c' : Nat) (w : World) :
    Calls Try.prog 16 #[.slice a 0 c, .slice a' 0 c'] w fun e w' => e = .returned (.bool true) ∧ Quiet w w' := by
  go_enter Try.func16, Try.ntmps16
  go_wp2
  refine wp_loop_rounds 1 ?_; rw [rounds_succ]; go_wp2
  go_ret
  exact ⟨rfl, Quiet.refl _⟩
set_option maxHeartbeats 400000 in
theorem eqInt_some (b o b' o' c c' : Nat) (zs zs' : List Int) (n : Nat) (w : World) (h : zs.length = n) (h' : zs'.length = n) (_h1 : n ≤ maxLen)
    (hc : ∀ i, i < n → w.cell? ⟨b, o + i, none⟩ = some (.int .i64 (zs.getD i 0))) (hc' : ∀ i, i < n → w.cell? ⟨b', o' + i, none⟩ = some (.int .i64 (zs'.getD i 0))) :
    Calls Try.prog 16 #[.slice (some ⟨b, o, none⟩) n c, .slice (some ⟨b', o', none⟩) n c'] w fun e w' => e = .returned (.bool (decide (zs = zs'))) ∧ Quiet w w' := by
  unfold maxLen at _h1
  have HC := Lib.hid hc
  have HC' := Lib.hid hc'
  have HL := Lib.hid h
  have HL' := Lib.hid h'
  clear hc hc' h h'
  go_enter Try.func16, Try.ntmps16
  go_wp2
  go_loopw [5] (fun i wr => ∃ k m : Nat, k ≤ n ∧ i = .int .i64 k ∧ zs.take k = zs'.take k ∧ wr = w.drewN m) (fun i _ => n - (intOf i).toNat)
  case atStart => exact ⟨0, 0, Nat.zero_le _, rfl, rfl, rfl⟩
  case round =>
    obtain ⟨k, m, hk, rfl, ht, rfl⟩ := hrel
    have HT := Lib.hid ht
    clear ht
    by_cases hlt : k < n
    · have e1 := HC.out k hlt
      have e2 := HC'.out k hlt
      by_cases he : zs.getD k 0 = zs'.getD k 0
      · have HE := Lib.hid he
        rw [← he] at e2
        obtain ⟨x, hx⟩ : ∃ x, x = zs.getD k 0 := ⟨_, rfl⟩
        rw [← hx] at e1 e2
        clear he hx
        go_wp2
        go_quiet (fail)
        go_wp2
        go_roundw
        case rel => exact ⟨k + 1, m + nq, by omega, by go_num, take_succ_eq HT.out HE.out (by rw [HL.out]; omega) (by rw [HL'.out]; omega), rfl⟩
        case measure => simp [intOf]; omega
      · obtain ⟨x, hx⟩ : ∃ x, x = zs.getD k 0 := ⟨_, rfl⟩
        obtain ⟨y, hy⟩ : ∃ y, y = zs'.getD k 0 := ⟨_, rfl⟩
        have HN : Hid (zs ≠ zs') := by intro h; subst h; exact he rfl
        rw [← hx] at e1
        rw [← hy] at e2
        have hxy : (x != y) = true := by rw [hx, hy]; simpa using he
        clear he hx hy
        go_wp2
        go_quiet (fail)
        go_wp2
        go_ret
        exact ⟨by simp [HN.out], Quiet.drewN _ _ _⟩
    · go_wp2
      go_ret
      have e : k = n := by omega
      subst e
      have := HT.out
      rw [List.take_of_length_le (by rw [HL.out]; omega), List.take_of_length_le (by rw [HL'.out]; omega)] at this
      exact ⟨by simp [this], m, rfl⟩
theorem eqInt_any (w : World) (v v' : Value) (zs zs' : List Int) (h : Rd w v zs) (h' : Rd w v' zs') :
    Calls Try.prog 16 #[v, v'] w fun e w' => e = .returned (.bool (decide (zs = zs'))) ∧ Quiet w w' := by
  obtain ⟨a, c, rfl, h1, h2, h3⟩ := h
  obtain ⟨a', c', rfl, h1', h2', h3'⟩ := h'
  by_cases hl : zs.length = zs'.length
  · by_cases hz : zs = []
    · subst hz
      obtain rfl : zs' = [] := List.eq_nil_of_length_eq_zero (by simpa using hl.symm)
      exact (eqInt_nil a a' c c' w).mono fun e w' ⟨he, hw⟩ => ⟨by rw [he]; rfl, hw⟩
    · obtain ⟨b, o, rfl, hc⟩ := h3.resolve_left hz
      have hz' : zs' ≠ [] := by rintro rfl; exact hz (List.eq_nil_of_length_eq_zero (by simpa using hl))
      obtain ⟨b', o', rfl, hc'⟩ := h3'.resolve_left hz'
      rw [← hl] at hc' ⊢
      exact eqInt_some b o b' o' c c' zs zs' zs.length w rfl hl.symm (Nat.le_trans h1 h2) hc hc'
  · exact (eqInt_ne a a' _ _ c c' w hl (Nat.le_trans h1 h2) (Nat.le_trans h1' h2')).mono fun e w' ⟨he, hw⟩ => ⟨by rw [he, decide_eq_false (fun h => hl (by rw [h]))], hw⟩

/-- The marks: k, k + 1 and so on. -/
def marks (k n : Nat) : List Int := (List.range n).map fun i : Nat => (k : Int) + (i : Int)
theorem marks_length (k n : Nat) : (marks k n).length = n := by simp [marks]
theorem marks_get (k n i : Nat) (h : i < n) : (marks k n).getD i 0 = (k : Int) + (i : Int) := by simp [marks, h]
/-- The first i are marks, the others are as they were. -/
def markTo (k : Nat) (zs : List Int) (i : Nat) : List Int := marks k i ++ zs.drop i
theorem markTo_length (k : Nat) (zs : List Int) (i : Nat) (h : i ≤ zs.length) : (markTo k zs i).length = zs.length := by simp [markTo, marks_length]; omega
theorem markTo_all (k : Nat) (zs : List Int) : markTo k zs zs.length = marks k zs.length := by simp [markTo]
theorem markTo_succ (k : Nat) (zs : List Int) (i : Nat) (h : i < zs.length) : (markTo k zs i).set i ((k : Int) + (i : Int)) = markTo k zs (i + 1) := by
  apply List.ext_getElem?
  intro j
  simp only [markTo, marks, List.getElem?_set, List.getElem?_append, List.length_map, List.length_range, List.getElem?_map, List.getElem?_drop, List.length_append, List.length_drop]
  by_cases e : i = j
  · subst e; simp [show i < i + (zs.length - i) by omega]
  · simp only [e, if_false]
    by_cases h2 : j < i
    · simp [h2, show j < i + 1 by omega]
    · simp [h2, show ¬ j < i + 1 by omega, show i + (j - i) = i + 1 + (j - (i + 1)) by omega]

theorem markInt_none (k : Nat) (w : World) (_hk : k ≤ 4194304) :
    Calls Try.prog 17 #[.slice none 0 0, .int .i64 k] w fun e w' => e = .returned (.int .i64 k) ∧ w = w' := by
  go_enter Try.func17, Try.ntmps17
  go_wp2
  refine wp_loop_rounds 1 ?_; rw [rounds_succ]; go_wp2
  go_ret
  exact ⟨rfl, rfl⟩
set_option maxHeartbeats 400000 in
theorem markInt_some (k g cap lo : Nat) (zs : List Int) (n : Nat) (w : World) (hn : n = zs.length) (_hk : k ≤ 4194304) (_hl : n ≤ 1048576) (ho : w.ownsRow lo 3 1 (.slice (some ⟨g, 0, none⟩) n cap) n (zs.map (Value.int .i64))) :
    Calls Try.prog 17 #[.slice (some ⟨g, 0, none⟩) n cap, .int .i64 k] w fun e w' =>
      e = .returned (.int .i64 ((k : Int) + n)) ∧ w'.ownsRow lo 3 1 (.slice (some ⟨g, 0, none⟩) n cap) n ((marks k n).map (Value.int .i64)) ∧ w.grownBy w' (some g) := by
  have HN := Lib.hid hn
  clear hn
  have HO := Lib.hid ho
  clear ho
  go_enter Try.func17, Try.ntmps17
  go_wp2
  go_loopw [1, 5] (fun kv i wr => ∃ j : Nat, j ≤ n ∧ i = .int .i64 j ∧ kv = .int .i64 ((k : Int) + (j : Int)) ∧ wr.ownsRow lo 3 1 (.slice (some ⟨g, 0, none⟩) n cap) n ((markTo k zs j).map (Value.int .i64)) ∧ w.grownBy wr (some g))
    (fun _ i _ => n - (intOf i).toNat)
  case atStart => exact ⟨0, Nat.zero_le _, rfl, by simp, by simpa [markTo, marks] using HO.out, World.grownBy.refl _ _⟩
  case round =>
    obtain ⟨j, hj, rfl, rfl, hown, hg⟩ := hrel
    by_cases hlt : j < n
    · have h1 := hown.cellAt j (by omega)
      have h2 := hown.frozenAt j
      have h4 : ((markTo k zs j).map (Value.int .i64))[j]? = some (.int .i64 ((markTo k zs j).getD j 0)) := by
        have := markTo_length k zs j (by rw [← HN.out]; omega)
        have hz := HN.out
        simp [List.getElem?_eq_getElem (show j < (markTo k zs j).length by omega)]
      rw [h4] at h1
      have hst := hown.stored j (.int .i64 ((k : Int) + (j : Int)))
      have H := Lib.hid hst
      clear hst h4
      go_wp2
      go_roundw
      case rel =>
        have hst := H.out
        rw [← List.map_set, markTo_succ k zs j (by rw [← HN.out]; omega)] at hst
        exact ⟨j + 1, by omega, by go_num, by go_num, hst.1, ⟨hst.2.os.trans hg.os, hst.2.tape.trans hg.tape, hst.2.output.trans hg.output, Nat.le_trans hg.size hst.2.size, fun i hi hne => (hst.2.block i (Nat.lt_of_lt_of_le hi hg.size) hne).trans (hg.block i hi hne)⟩⟩
      case measure => simp [intOf]; omega
    · go_wp2
      go_ret
      have e : j = n := by omega
      subst e
      have hz := HN.out
      rw [hz, markTo_all, ← hz] at hown
      exact ⟨rfl, hown, hg⟩
theorem markInt_any (w : World) (lo k : Nat) (kv : Int) (v : Value) (zs : List Int) (h : Own w lo v zs) (hkv : kv = (k : Int)) (hk : k ≤ 4194304) (hl : zs.length ≤ 1048576) :
    Calls Try.prog 17 #[v, .int .i64 kv] w fun e w' => e = .returned (.int .i64 ((k + zs.length : Nat) : Int)) ∧ Own w' lo v (marks k zs.length) ∧ w.grownBy w' v.ownBlock := by
  subst hkv
  rcases h.2 with ⟨rfl, h0⟩ | ⟨g, cap, cur, rfl, _, hg, hn, hm, _, _⟩
  · obtain rfl : zs = [] := List.eq_nil_of_length_eq_zero h0
    refine (markInt_none k w hk).mono fun e w' ⟨he, hw⟩ => ?_
    subst hw
    exact ⟨by simpa using he, Own.nil _ _, World.grownBy.refl _ _⟩
  · refine (markInt_some k g cap lo zs zs.length w rfl hk hl h).mono fun e w' ⟨he, hw, hgr⟩ => ⟨by rw [he]; simp, ?_, hgr⟩
    unfold Own
    rw [marks_length]
    exact hw

theorem heldInt_none (k : Nat) (w : World) (_hk : k ≤ 4194304) :
    Calls Try.prog 18 #[.slice none 0 0, .int .i64 k] w fun e w' => e = .returned (.int .i64 k) ∧ w = w' := by
  go_enter Try.func18, Try.ntmps18
  go_wp2
  refine wp_loop_rounds 1 ?_; rw [rounds_succ]; go_wp2
  go_ret
  exact ⟨rfl, rfl⟩
set_option maxHeartbeats 400000 in
theorem heldInt_some (k g cap lo : Nat) (n : Nat) (w : World) (_hk : k ≤ 4194304) (_hl : n ≤ 1048576) (ho : w.ownsRow lo 3 1 (.slice (some ⟨g, 0, none⟩) n cap) n ((marks k n).map (Value.int .i64))) :
    Calls Try.prog 18 #[.slice (some ⟨g, 0, none⟩) n cap, .int .i64 k] w fun e w' => e = .returned (.int .i64 ((k : Int) + n)) ∧ w = w' := by
  have HO := Lib.hid ho
  clear ho
  go_enter Try.func18, Try.ntmps18
  go_wp2
  go_loop [1, 5] (fun kv i => ∃ j : Nat, j ≤ n ∧ i = .int .i64 j ∧ kv = .int .i64 ((k : Int) + (j : Int))) (fun _ i => n - (intOf i).toNat)
  case atStart => exact ⟨0, Nat.zero_le _, rfl, by simp⟩
  case round =>
    obtain ⟨j, hj, rfl, rfl⟩ := hrel
    by_cases hlt : j < n
    · have h1 := HO.out.cellAt j (by omega)
      have h4 : ((marks k n).map (Value.int .i64))[j]? = some (.int .i64 ((k : Int) + (j : Int))) := by simp [marks, hlt]
      rw [h4] at h1
      clear h4
      go_wp2
      go_round
      case rel => exact ⟨j + 1, by omega, by go_num, by go_num⟩
      case measure => simp [intOf]; omega
    · go_wp2
      go_ret
      have e : j = n := by omega
      subst e
      exact ⟨rfl, rfl⟩
theorem heldInt_any (w : World) (lo k n : Nat) (kv : Int) (v : Value) (h : Own w lo v (marks k n)) (hkv : kv = (k : Int)) (hk : k ≤ 4194304) (hl : n ≤ 1048576) :
    Calls Try.prog 18 #[v, .int .i64 kv] w fun e w' => e = .returned (.int .i64 ((k + n : Nat) : Int)) ∧ w = w' := by
  subst hkv
  have h' := h
  unfold Own at h
  rw [marks_length] at h
  rcases h.2 with ⟨rfl, h0⟩ | ⟨g, cap, cur, rfl, _, hg, hn, hm, _, _⟩
  · subst h0
    exact (heldInt_none k w hk).mono fun e w' ⟨he, hw⟩ => ⟨by rw [he]; simp, hw⟩
  · exact (heldInt_some k g cap lo n w hk hl h).mono fun e w' ⟨he, hw⟩ => ⟨by rw [he]; simp, hw⟩
end Go.Proofs.Ytokhgkmdeionoaa
