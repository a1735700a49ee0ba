/- The walk of FnEnergyOf: for every code the law returns true and nothing that was there is changed. No conditions. -/
import Derived.Test.YtnjnniaiajejeaaLaw1
import Derived.Test.YtnjnniaiajejeaaEnLaw
namespace Go.Proofs.Ytnjnniaiajejeaa
open Go.RowKit
set_option maxHeartbeats 2000000 in
theorem law_FnEnergyOf (w : World) (a : Option Addr) (n c : Nat) (bs : List Int) (h : Rdb w (.slice a n c) bs) :
    Calls Try.prog 6 #[.slice a n c] w fun e w' => e = .returned (.bool true) ∧ Below w.heap.size w w' := by
  have HN := Lib.hid (drawEnergyOf_any w _ bs h)
  clear h
  by_cases hn : 1048576 < n
  · clear HN
    go_enter Try.func6, Try.ntmps6
    go_wp2
    go_ret
    exact ⟨rfl, Below.refl _ _⟩
  go_enter Try.func6, Try.ntmps6
  go_wp2_with fail
  refine HN.out.mono ?_; rintro e w1 ⟨r, zs, rfl, ho, hl, b1⟩
  clear HN
  obtain ⟨a1, c1, rfl, q1, q2, -⟩ := ho.rd
  unfold maxLen at q2
  by_cases hv : vrow zs = true
  rotate_left
  · have hR : retEnergyOf zs = -1 := by rw [retEnergyOf, if_neg hv]
    go_wp2_with fail
    refine (enI _ _ zs ho.rd (by omega)).mono ?_; rintro e w2 ⟨rfl, qq⟩
    rw [hR]
    have o2 := ho.keep qq
    have b2 := b1.grown qq b1.size (by simp)
    clear ho b1 qq
    go_wp2_with fail
    refine (enS _ _ zs o2.rd (by omega)).mono ?_; rintro e w3 ⟨rfl, qq⟩
    rw [hR]
    have o3 := o2.keep qq
    have b3 := b2.grown qq b2.size (by simp)
    clear o2 b2 qq
    go_wp2_with fail
    refine (enS _ _ zs o3.rd (by omega)).mono ?_; rintro e w4 ⟨rfl, qq⟩
    rw [hR]
    have b4 := b3.grown qq b3.size (by simp)
    clear o3 b3 qq
    go_wp2_with fail
    go_ret
    exact ⟨rfl, b4⟩
  obtain ⟨e0, e1⟩ := ret_bd hv
  have HD := Lib.hid (show 0 < zs.length → retEnergyOf zs = zs.getD 0 0 * zs.getD 0 0 + retEnergyOf (zs.drop 1) from ret_drop1 hv)
  have HT := Lib.hid (ret_turn hv)
  have HZ := Lib.hid (show zs.length = 0 → retEnergyOf zs = 0 from fun h => by rw [List.eq_nil_of_length_eq_zero h]; rfl)
  have HB := Lib.hid (vrow_all hv 0)
  have HB1 := Lib.hid (ret_bd (vrow_drop1 hv))
  obtain ⟨E, hE⟩ : ∃ E, E = retEnergyOf zs := ⟨_, rfl⟩
  have HE := Lib.hid hE
  rw [← hE] at e0 e1 HD HT HZ
  clear hv hE
  go_wp2_with fail
  refine (enI _ _ zs ho.rd (by omega)).mono ?_; rintro e w2 ⟨rfl, qq⟩
  rw [← HE.out]
  have o2 := ho.keep qq
  have b2 := b1.grown qq b1.size (by simp)
  clear ho b1 qq
  go_wp2_with fail
  refine (enS _ _ zs o2.rd (by omega)).mono ?_; rintro e w3 ⟨rfl, qq⟩
  rw [← HE.out]
  have ho := o2.keep qq
  have b5 := b2.grown qq b2.size (by simp)
  clear o2 b2 qq
  by_cases hz : zs.length = 0
  · obtain rfl := HZ.out hz
    rw [hz]
    go_wp2_with fail
    go_ret
    exact ⟨rfl, b5⟩
  · obtain ⟨k, hk⟩ : ∃ k, zs.length = k + 1 := ⟨zs.length - 1, by omega⟩
    obtain ⟨d, rfl⟩ : ∃ d, c1 = d + 1 := ⟨c1 - 1, by omega⟩
    obtain ⟨b, hb, -, -, rw1⟩ := ho.cut (by omega)
    have h1 := rw1.get 0 (by omega)
    have hx1 := HB.out
    have hxe := HD.out (by omega)
    subst hb
    obtain ⟨x, hx⟩ : ∃ x, x = zs.getD 0 0 := ⟨_, rfl⟩
    obtain ⟨F, hF⟩ : ∃ F, F = retEnergyOf (zs.drop 1) := ⟨_, rfl⟩
    have HF := Lib.hid hF
    have hF1 := HB1.out
    rw [← hx] at h1 hx1 hxe
    rw [← hF] at hxe hF1
    have hsq := sq_bd hx1.1 hx1.2
    have s1 : IntKind.i64.wrap (x * x) = x * x := IntWalk.i64_in _ (by omega)
    have s2 : IntKind.i64.wrap (x * x + F) = E := by rw [hxe]; exact IntWalk.i64_in _ (by omega)
    have HTN := Lib.hid (show ∀ W, Own W w.heap.size (.slice (some ⟨b, 0, none⟩) zs.length (d + 1)) zs → Calls Try.prog 21 #[.slice (some ⟨b, 0, none⟩) zs.length (d + 1)] W fun e w' => ∃ r, e = .returned r ∧ Own w' W.heap.size r (turnT zs zs.length) ∧ W.grownBy w' none from fun W h => (turned_any W _ zs h.rd (by omega)).mono fun e w' ⟨r, h1, h2, h3⟩ => ⟨r, h1, h2, Below.grownBy h3⟩)
    have HE2 := Lib.hid (show ∀ W (r : Value) {lo : Nat}, Own W lo r (turnT zs zs.length) → Calls Try.prog 19 #[r] W fun e w' => e = .returned (.int .i64 E) ∧ W.grownBy w' none from fun W r lo h => (enI W _ _ h.rd (by rw [turnT, tab_len]; omega)).mono fun e w' ⟨h1, h2⟩ => ⟨by rw [h1, HT.out], h2⟩)
    have HE1 := Lib.hid (show ∀ W, Own W w.heap.size (.slice (some ⟨b, 0, none⟩) zs.length (d + 1)) zs → Calls Try.prog 19 #[.slice (if d = 0 then some ⟨b, 0, none⟩ else some ⟨b, 1, none⟩) k d] W fun e w' => e = .returned (.int .i64 F) ∧ W.grownBy w' none from fun W h => by
      have hrd : Rd W (.slice (if d = 0 then some ⟨b, 0, none⟩ else some ⟨b, 1, none⟩) k d) (zs.drop 1) := by
        by_cases hd : d = 0
        · have hk0 : k = 0 := by omega
          have hnil : zs.drop 1 = [] := List.eq_nil_of_length_eq_zero (by rw [List.length_drop]; omega)
          rw [hnil, hk0]
          exact ⟨_, _, rfl, Nat.zero_le _, by unfold maxLen; omega, .inl rfl⟩
        · rw [if_neg hd]
          have := h.rd.drop (k := 1) (by omega)
          rw [hk] at this
          exact this
      refine (enI W _ _ hrd (by rw [List.length_drop]; omega)).mono fun e w' ⟨h1, h2⟩ => ⟨by rw [h1, HF.out], h2⟩)
    rw [hk] at ho HTN HE1 HE2 ⊢
    have HT := HTN
    clear hk rw1 hz hx hF HB HD HZ HB1 hxe hF1 HF HE HTN hsq hx1
    have z1 : ((k : Int) + 1 == 0) = false := by rw [beq_eq_false_iff_ne]; omega
    have z2 : (0 : Int) < (k : Int) + 1 := by omega
    have z3 : (1 : Int) ≤ (k : Int) + 1 := by omega
    go_wp2_with fail
    refine wp_region_held_drew (S := (fun w' => w'.cell? ⟨b, 0, none⟩ = some (.int .i64 x) ∧ Own w' w.heap.size (.slice (some ⟨b, 0, none⟩) (k + 1) (d + 1)) zs ∧ Below w.heap.size w w')) (by kernel_rfl) (⟨h1, ho, b5.drew⟩) (fun hHeld => ?_)
    refine take_t 0 29 (v := ?_) rfl rfl (by kernel_rfl) (by kernel_rfl) (by kernel_rfl) (fun _ _ _ h => h) (by rfl) hHeld ?_ ?_
    rotate_left
    · intro W hW
      (try dsimp only at hW)
      go_simp
      (try with_reducible rfl)
    simp only [Act.put, List.setIfInBounds_toArray, List.set_cons_zero, List.set_cons_succ]
    refine take_t 1 30 (v := ?_) rfl rfl (by kernel_rfl) (by kernel_rfl) (by kernel_rfl) (fun _ _ _ h => h) (by rfl) hHeld ?_ ?_
    rotate_left
    · intro W hW
      (try dsimp only at hW)
      go_simp
      (try with_reducible rfl)
    simp only [Act.put, List.setIfInBounds_toArray, List.set_cons_zero, List.set_cons_succ]
    refine take_t 2 31 (v := ?_) rfl rfl (by kernel_rfl) (by kernel_rfl) (by kernel_rfl) (fun _ _ _ h => h) (by rfl) hHeld ?_ ?_
    rotate_left
    · intro W hW
      (try dsimp only at hW)
      go_simp
      (try with_reducible rfl)
    simp only [Act.put, List.setIfInBounds_toArray, List.set_cons_zero, List.set_cons_succ]
    refine take_t 3 32 (v := ?_) rfl rfl (by kernel_rfl) (by kernel_rfl) (by kernel_rfl) (fun _ _ _ h => h) (by rfl) hHeld ?_ ?_
    rotate_left
    · intro W hW
      (try dsimp only at hW)
      go_simp
      (try with_reducible rfl)
    simp only [Act.put, List.setIfInBounds_toArray, List.set_cons_zero, List.set_cons_succ]
    refine take_t 4 33 (v := ?_) rfl rfl (by kernel_rfl) (by kernel_rfl) (by kernel_rfl) (fun _ _ _ h => h) (by rfl) hHeld ?_ ?_
    rotate_left
    · intro W hW
      (try dsimp only at hW)
      go_simp
      (try with_reducible rfl)
    simp only [Act.put, List.setIfInBounds_toArray, List.set_cons_zero, List.set_cons_succ]
    refine take_t 5 34 (v := ?_) rfl rfl (by kernel_rfl) (by kernel_rfl) (by kernel_rfl) (fun _ _ _ h => h) (by rfl) hHeld ?_ ?_
    rotate_left
    · intro W hW
      (try dsimp only at hW)
      go_simp
      (try with_reducible rfl)
    simp only [Act.put, List.setIfInBounds_toArray, List.set_cons_zero, List.set_cons_succ]
    refine take_t 6 35 (v := ?_) rfl rfl (by kernel_rfl) (by kernel_rfl) (by kernel_rfl) (fun _ _ _ h => h) (by rfl) hHeld ?_ ?_
    rotate_left
    · intro W hW
      (try dsimp only at hW)
      go_simp
      (try with_reducible rfl)
    simp only [Act.put, List.setIfInBounds_toArray, List.set_cons_zero, List.set_cons_succ]
    refine take_t 7 36 (v := ?_) rfl rfl (by kernel_rfl) (by kernel_rfl) (by kernel_rfl) (fun _ _ _ h => h) (by rfl) hHeld ?_ ?_
    rotate_left
    · intro W hW
      (try dsimp only at hW)
      go_simp
      (try with_reducible rfl)
    simp only [Act.put, List.setIfInBounds_toArray, List.set_cons_zero, List.set_cons_succ]
    refine take_t 8 37 (v := ?_) rfl rfl (by kernel_rfl) (by kernel_rfl) (by kernel_rfl) (fun _ _ _ h => h) (by rfl) hHeld ?_ ?_
    rotate_left
    · intro W hW
      (try dsimp only at hW)
      go_simp
      (try with_reducible rfl)
    simp only [Act.put, List.setIfInBounds_toArray, List.set_cons_zero, List.set_cons_succ]
    refine take_t 9 38 (v := ?_) rfl rfl (by kernel_rfl) (by kernel_rfl) (by kernel_rfl) (fun _ _ _ h => h) (by rfl) hHeld ?_ ?_
    rotate_left
    · intro W hW
      (try dsimp only at hW)
      go_simp
      (try with_reducible rfl)
    simp only [Act.put, List.setIfInBounds_toArray, List.set_cons_zero, List.set_cons_succ]
    refine call_c 10 rfl (by kernel_rfl) (by rfl) (fun K hK => ?_)
    go_simp
    refine (HE1.out _ hHeld.2.1).mono ?_; rintro e w5 ⟨rfl, g5⟩
    refine hK.out _ _ (⟨cell_g hHeld.1 g5, hHeld.2.1.keep g5, hHeld.2.2.grown g5 hHeld.2.2.size (by simp)⟩) (fun hHeld => ?_)
    clear hK K
    (try simp only [Act.put, List.setIfInBounds_toArray, List.set_cons_zero, List.set_cons_succ])
    refine take_t 11 40 (v := ?_) rfl rfl (by kernel_rfl) (by kernel_rfl) (by kernel_rfl) (fun _ _ _ h => h) (by rfl) hHeld ?_ ?_
    rotate_left
    · intro W hW
      (try dsimp only at hW)
      go_simp
      (try with_reducible rfl)
    simp only [Act.put, List.setIfInBounds_toArray, List.set_cons_zero, List.set_cons_succ]
    refine take_t 12 41 (v := ?_) rfl rfl (by kernel_rfl) (by kernel_rfl) (by kernel_rfl) (fun _ _ _ h => h) (by rfl) hHeld ?_ ?_
    rotate_left
    · intro W hW
      (try dsimp only at hW)
      go_simp
      (try with_reducible rfl)
    simp only [Act.put, List.setIfInBounds_toArray, List.set_cons_zero, List.set_cons_succ]
    refine take_t 13 42 (v := ?_) rfl rfl (by kernel_rfl) (by kernel_rfl) (by kernel_rfl) (fun _ _ _ h => h) (by rfl) hHeld ?_ ?_
    rotate_left
    · intro W hW
      (try dsimp only at hW)
      go_simp
      (try with_reducible rfl)
    simp only [Act.put, List.setIfInBounds_toArray, List.set_cons_zero, List.set_cons_succ]
    refine take_t 14 43 (v := ?_) rfl rfl (by kernel_rfl) (by kernel_rfl) (by kernel_rfl) (fun _ _ _ h => h) (by rfl) hHeld ?_ ?_
    rotate_left
    · intro W hW
      (try dsimp only at hW)
      go_simp
      (try with_reducible rfl)
    simp only [Act.put, List.setIfInBounds_toArray, List.set_cons_zero, List.set_cons_succ]
    refine take_t 15 44 (v := ?_) rfl rfl (by kernel_rfl) (by kernel_rfl) (by kernel_rfl) (fun _ _ _ h => h) (by rfl) hHeld ?_ ?_
    rotate_left
    · intro W hW
      (try dsimp only at hW)
      go_simp
      (try with_reducible rfl)
    simp only [Act.put, List.setIfInBounds_toArray, List.set_cons_zero, List.set_cons_succ]
    refine call_c 16 rfl (by kernel_rfl) (by rfl) (fun K hK => ?_)
    go_simp
    refine (HT.out _ hHeld.2.1).mono ?_; rintro e w6 ⟨rt, rfl, o6, g6⟩
    refine hK.out _ _ (⟨cell_g hHeld.1 g6, hHeld.2.1.keep g6, hHeld.2.2.grown g6 hHeld.2.2.size (by simp)⟩) (fun hHeld => ?_)
    clear hK K
    (try simp only [Act.put, List.setIfInBounds_toArray, List.set_cons_zero, List.set_cons_succ])
    refine call_c 17 rfl (by kernel_rfl) (by rfl) (fun K hK => ?_)
    go_simp
    refine (HE2.out _ _ o6).mono ?_; rintro e w7 ⟨rfl, g7⟩
    refine hK.out _ _ (⟨cell_g hHeld.1 g7, hHeld.2.1.keep g7, hHeld.2.2.grown g7 hHeld.2.2.size (by simp)⟩) (fun hHeld => ?_)
    clear hK K
    (try simp only [Act.put, List.setIfInBounds_toArray, List.set_cons_zero, List.set_cons_succ])
    refine take_t 18 47 (v := ?_) rfl rfl (by kernel_rfl) (by kernel_rfl) (by kernel_rfl) (fun _ _ _ h => h) (by rfl) hHeld ?_ ?_
    rotate_left
    · intro W hW
      (try dsimp only at hW)
      go_simp
      (try with_reducible rfl)
    simp only [Act.put, List.setIfInBounds_toArray, List.set_cons_zero, List.set_cons_succ]
    refine take_t 19 48 (v := ?_) rfl rfl (by kernel_rfl) (by kernel_rfl) (by kernel_rfl) (fun _ _ _ h => h) (by rfl) hHeld ?_ ?_
    rotate_left
    · intro W hW
      (try dsimp only at hW)
      go_simp
      (try with_reducible rfl)
    simp only [Act.put, List.setIfInBounds_toArray, List.set_cons_zero, List.set_cons_succ]
    refine take_t 20 2 (v := ?_) rfl rfl (by kernel_rfl) (by kernel_rfl) (by kernel_rfl) (fun _ _ _ h => h) (by rfl) hHeld ?_ ?_
    rotate_left
    · intro W hW
      (try dsimp only at hW)
      go_simp
      (try with_reducible rfl)
    simp only [Act.put, List.setIfInBounds_toArray, List.set_cons_zero, List.set_cons_succ]
    refine wpAnyH_done (by kernel_rfl) ?_ _
    go_wp2
    all_goals (go_ret; exact ⟨rfl, hHeld.2.2⟩)
end Go.Proofs.Ytnjnniaiajejeaa
