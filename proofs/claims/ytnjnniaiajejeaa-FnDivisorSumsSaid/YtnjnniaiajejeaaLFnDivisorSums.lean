/- The walk of FnDivisorSums: for every code the law returns true and nothing that was there is changed. No conditions. -/
import Derived.Test.YtnjnniaiajejeaaLaw1
import Derived.Test.YtnjnniaiajejeaaDivLaw
namespace Go.Proofs.Ytnjnniaiajejeaa
open Go.RowKit
set_option maxHeartbeats 2000000 in
theorem law_FnDivisorSums (w : World) (a : Option Addr) (n c : Nat) (bs : List Int) (h : Rdb w (.slice a n c) bs) :
    Calls Try.prog 3 #[.slice a n c] w fun e w' => e = .returned (.bool true) ∧ Below w.heap.size w w' := by
  have HN := Lib.hid (drawDivisorSums_any w _ bs h)
  clear h
  by_cases hn : 1048576 < n
  · clear HN
    go_enter Try.func3, Try.ntmps3
    go_wp2
    go_ret
    exact ⟨rfl, Below.refl _ _⟩
  go_enter Try.func3, Try.ntmps3
  go_wp2_with fail
  refine HN.out.mono ?_; rintro e w1 ⟨r, zs, rfl, ho, hl, b1⟩
  clear HN
  obtain ⟨a1, c1, rfl, q1, q2, -⟩ := ho.rd
  unfold maxLen at q2
  obtain ⟨ds, hds⟩ : ∃ ds, ds = resDivisorSums zs := ⟨_, rfl⟩
  have hdm : ds.length ≤ 1048576 := by rw [hds]; exact resDivisorSums_len zs
  go_wp2_with fail
  refine (implDivisorSums_any _ _ zs ho.rd (by omega)).mono ?_; rintro e w2 ⟨vo, rfl, o2, bb⟩
  rw [← hds] at o2
  have s2 : Sd w (.slice a1 zs.length c1) zs vo ds w2 := ⟨ho.keep (Below.grownBy bb), o2.mono b1.size, b1.grown (Below.grownBy bb) b1.size (by simp)⟩
  clear ho b1 bb o2
  go_wp2_with fail
  refine (specDivisorSums_any _ _ zs s2.1.rd (by omega)).mono ?_; rintro e w3 ⟨vs, rfl, o3, bb⟩
  rw [← hds] at o3
  have s3 := s2.step (Below.grownBy bb)
  clear s2 bb
  go_wp2_with fail
  refine (eq_yes _ _ _ ds ds s3.2.1.rd o3.rd rfl).mono ?_; rintro e w4 ⟨rfl, g⟩
  have s4 := s3.step g
  clear s3 o3 g
  go_wp2_with fail
  by_cases hv : vrow zs = true
  · refine ((show _ from hv ▸ implValidRow_any _ _ zs s4.1.rd (by omega) : Calls Try.prog 12 #[.slice a1 zs.length c1] w4 fun e w' => e = .returned (.bool true) ∧ w4 = w')).mono ?_; rintro e w5 ⟨rfl, rfl⟩
    have hdl : ds.length = zs.length := by rw [hds]; exact div_len hv
    obtain ⟨a2, c2, rfl, p1, p2, -⟩ := s4.2.1.rd
    unfold maxLen at p2
    rw [hdl] at p1 s4 ⊢
    have HDL := Lib.hid hdl
    have HDS := Lib.hid hds
    have HV := Lib.hid hv
    have S4 := Lib.hid s4
    clear hdl hds s4 hdm hv
    by_cases hz : zs.length = 0
    · have hvd : vrow ds = true := by
        have h0 : ds = [] := List.eq_nil_of_length_eq_zero (by rw [HDL.out]; exact hz)
        rw [h0]; rfl
      have HU := Lib.hid (show resUndivisorSums ds = zs by have := HDS.out; subst this; exact undiv_div HV.out hvd)
      have CV : ∀ W, Sd w (.slice a1 zs.length c1) zs (.slice a2 zs.length c2) ds W → Calls Try.prog 12 #[.slice a2 zs.length c2] W fun e w' => e = .returned (.bool true) ∧ W = w' := fun W hS => hvd ▸ implValidRow_any _ _ ds hS.2.1.rd (by have := HDL.out; omega)
      have CU : ∀ W, Sd w (.slice a1 zs.length c1) zs (.slice a2 zs.length c2) ds W → Calls Try.prog 13 #[.slice a2 zs.length c2] W fun e w' => ∃ r, e = .returned r ∧ Own w' w.heap.size r zs ∧ W.grownBy w' none := fun W hS => (implUndivisorSums_any _ _ ds hS.2.1.rd (by have := HDL.out; omega)).mono fun e w' ⟨r, h1, h2, h3⟩ => ⟨r, h1, (HU.out ▸ h2).mono hS.2.2.size, Below.grownBy h3⟩
      have S5 := S4.out
      clear HU HDL HDS HV S4
      obtain ⟨m, hm⟩ : ∃ m, m = zs.length := ⟨_, rfl⟩
      rw [← hm] at CV CU S5 hz hl p1 q1 ⊢
      have z1 : ((m : Int) == 0) = true := by rw [beq_iff_eq]; omega
      clear hm hz
      have HC := Lib.hid CV
      have HC2 := Lib.hid CU
      clear CV CU
      go_wp2_with fail
      refine wp_region_held_drew (S := (fun w' => Sd w (.slice a1 m c1) zs (.slice a2 m c2) ds w')) (by kernel_rfl) (S5.drew) (fun hHeld => ?_)
      refine take_t 0 26 (v := ?_) rfl rfl (by kernel_rfl) (by kernel_rfl) (by kernel_rfl) (fun _ _ _ h => h) (by rfl) hHeld ?_ ?_
      rotate_left
      · intro W hW
        (try dsimp only at hW)
        go_simp
        (try with_reducible rfl)
      simp only [Act.put, List.setIfInBounds_toArray, List.set_cons_zero, List.set_cons_succ]
      refine call_c 1 rfl (by kernel_rfl) (by rfl) (fun K hK => ?_)
      go_simp
      refine (HC.out _ hHeld).mono ?_; rintro e w' ⟨rfl, rfl⟩
      refine hK.out _ _ (hHeld) (fun hHeld => ?_)
      clear hK K
      (try simp only [Act.put, List.setIfInBounds_toArray, List.set_cons_zero, List.set_cons_succ])
      refine take_t 2 28 (v := ?_) rfl rfl (by kernel_rfl) (by kernel_rfl) (by kernel_rfl) (fun _ _ _ h => h) (by rfl) hHeld ?_ ?_
      rotate_left
      · intro W hW
        (try dsimp only at hW)
        go_simp
        (try with_reducible rfl)
      simp only [Act.put, List.setIfInBounds_toArray, List.set_cons_zero, List.set_cons_succ]
      refine take_t 3 29 (v := ?_) rfl rfl (by kernel_rfl) (by kernel_rfl) (by kernel_rfl) (fun _ _ _ h => h) (by rfl) hHeld ?_ ?_
      rotate_left
      · intro W hW
        (try dsimp only at hW)
        go_simp
        (try with_reducible rfl)
      simp only [Act.put, List.setIfInBounds_toArray, List.set_cons_zero, List.set_cons_succ]
      refine take_t 4 30 (v := ?_) rfl rfl (by kernel_rfl) (by kernel_rfl) (by kernel_rfl) (fun _ _ _ h => h) (by rfl) hHeld ?_ ?_
      rotate_left
      · intro W hW
        (try dsimp only at hW)
        go_simp
        (try with_reducible rfl)
      simp only [Act.put, List.setIfInBounds_toArray, List.set_cons_zero, List.set_cons_succ]
      refine take_t 6 32 (v := ?_) rfl rfl (by kernel_rfl) (by kernel_rfl) (by kernel_rfl) (fun _ _ _ h => h) (by rfl) hHeld ?_ ?_
      rotate_left
      · intro W hW
        (try dsimp only at hW)
        go_simp
        (try with_reducible rfl)
      simp only [Act.put, List.setIfInBounds_toArray, List.set_cons_zero, List.set_cons_succ]
      refine call_c 5 rfl (by kernel_rfl) (by rfl) (fun K hK => ?_)
      go_simp
      refine (HC2.out _ hHeld).mono ?_; rintro e w5 ⟨r, rfl, hr, g5⟩
      refine hK.out _ _ (Sd.step hHeld g5) (fun hHeld => ?_)
      clear hK K
      (try simp only [Act.put, List.setIfInBounds_toArray, List.set_cons_zero, List.set_cons_succ])
      refine call_c 7 rfl (by kernel_rfl) (by rfl) (fun K hK => ?_)
      go_simp
      refine (eq_yes _ _ _ zs zs hr.rd (Sd.row hHeld) rfl).mono ?_; rintro e w7 ⟨rfl, g7⟩
      refine hK.out _ _ (Sd.step hHeld g7) (fun hHeld => ?_)
      clear hK K
      (try simp only [Act.put, List.setIfInBounds_toArray, List.set_cons_zero, List.set_cons_succ])
      refine take_t 8 34 (v := ?_) rfl rfl (by kernel_rfl) (by kernel_rfl) (by kernel_rfl) (fun _ _ _ h => h) (by rfl) hHeld ?_ ?_
      rotate_left
      · intro W hW
        (try dsimp only at hW)
        go_simp
        (try with_reducible rfl)
      simp only [Act.put, List.setIfInBounds_toArray, List.set_cons_zero, List.set_cons_succ]
      refine take_t 9 35 (v := ?_) rfl rfl (by kernel_rfl) (by kernel_rfl) (by kernel_rfl) (fun _ _ _ h => h) (by rfl) hHeld ?_ ?_
      rotate_left
      · intro W hW
        (try dsimp only at hW)
        go_simp
        (try with_reducible rfl)
      simp only [Act.put, List.setIfInBounds_toArray, List.set_cons_zero, List.set_cons_succ]
      refine take_t 10 36 (v := ?_) rfl rfl (by kernel_rfl) (by kernel_rfl) (by kernel_rfl) (fun _ _ _ h => h) (by rfl) hHeld ?_ ?_
      rotate_left
      · intro W hW
        (try dsimp only at hW)
        go_simp
        (try with_reducible rfl)
      simp only [Act.put, List.setIfInBounds_toArray, List.set_cons_zero, List.set_cons_succ]
      refine take_t 11 37 (v := ?_) rfl rfl (by kernel_rfl) (by kernel_rfl) (by kernel_rfl) (fun _ _ _ h => h) (by rfl) hHeld ?_ ?_
      rotate_left
      · intro W hW
        (try dsimp only at hW)
        go_simp
        (try with_reducible rfl)
      simp only [Act.put, List.setIfInBounds_toArray, List.set_cons_zero, List.set_cons_succ]
      refine take_t 12 38 (v := ?_) rfl rfl (by kernel_rfl) (by kernel_rfl) (by kernel_rfl) (fun _ _ _ h => h) (by rfl) hHeld ?_ ?_
      rotate_left
      · intro W hW
        (try dsimp only at hW)
        go_simp
        (try with_reducible rfl)
      simp only [Act.put, List.setIfInBounds_toArray, List.set_cons_zero, List.set_cons_succ]
      refine take_t 13 39 (v := ?_) rfl rfl (by kernel_rfl) (by kernel_rfl) (by kernel_rfl) (fun _ _ _ h => h) (by rfl) hHeld ?_ ?_
      rotate_left
      · intro W hW
        (try dsimp only at hW)
        go_simp
        (try with_reducible rfl)
      simp only [Act.put, List.setIfInBounds_toArray, List.set_cons_zero, List.set_cons_succ]
      refine take_t 14 40 (v := ?_) rfl rfl (by kernel_rfl) (by kernel_rfl) (by kernel_rfl) (fun _ _ _ h => h) (by rfl) hHeld ?_ ?_
      rotate_left
      · intro W hW
        (try dsimp only at hW)
        go_simp
        (try with_reducible rfl)
      simp only [Act.put, List.setIfInBounds_toArray, List.set_cons_zero, List.set_cons_succ]
      refine take_t 15 41 (v := ?_) rfl rfl (by kernel_rfl) (by kernel_rfl) (by kernel_rfl) (fun _ _ _ h => h) (by rfl) hHeld ?_ ?_
      rotate_left
      · intro W hW
        (try dsimp only at hW)
        go_simp
        (try with_reducible rfl)
      simp only [Act.put, List.setIfInBounds_toArray, List.set_cons_zero, List.set_cons_succ]
      refine take_t 16 42 (v := ?_) rfl rfl (by kernel_rfl) (by kernel_rfl) (by kernel_rfl) (fun _ _ _ h => h) (by rfl) hHeld ?_ ?_
      rotate_left
      · intro W hW
        (try dsimp only at hW)
        go_simp
        (try with_reducible rfl)
      simp only [Act.put, List.setIfInBounds_toArray, List.set_cons_zero, List.set_cons_succ]
      refine take_t 17 43 (v := ?_) rfl rfl (by kernel_rfl) (by kernel_rfl) (by kernel_rfl) (fun _ _ _ h => h) (by rfl) hHeld ?_ ?_
      rotate_left
      · intro W hW
        (try dsimp only at hW)
        go_simp
        (try with_reducible rfl)
      simp only [Act.put, List.setIfInBounds_toArray, List.set_cons_zero, List.set_cons_succ]
      refine take_t 18 44 (v := ?_) rfl rfl (by kernel_rfl) (by kernel_rfl) (by kernel_rfl) (fun _ _ _ h => h) (by rfl) hHeld ?_ ?_
      rotate_left
      · intro W hW
        (try dsimp only at hW)
        go_simp
        (try with_reducible rfl)
      simp only [Act.put, List.setIfInBounds_toArray, List.set_cons_zero, List.set_cons_succ]
      refine take_t 19 45 (v := ?_) rfl rfl (by kernel_rfl) (by kernel_rfl) (by kernel_rfl) (fun _ _ _ h => h) (by rfl) hHeld ?_ ?_
      rotate_left
      · intro W hW
        (try dsimp only at hW)
        go_simp
        (try with_reducible rfl)
      simp only [Act.put, List.setIfInBounds_toArray, List.set_cons_zero, List.set_cons_succ]
      refine take_t 20 46 (v := ?_) rfl rfl (by kernel_rfl) (by kernel_rfl) (by kernel_rfl) (fun _ _ _ h => h) (by rfl) hHeld ?_ ?_
      rotate_left
      · intro W hW
        (try dsimp only at hW)
        go_simp
        (try with_reducible rfl)
      simp only [Act.put, List.setIfInBounds_toArray, List.set_cons_zero, List.set_cons_succ]
      refine take_u 21 47 rfl rfl (by kernel_rfl) (by kernel_rfl) (by kernel_rfl) (fun _ _ _ h => h) (by rfl) hHeld ?_
      simp only [Act.put, List.setIfInBounds_toArray, List.set_cons_zero, List.set_cons_succ]
      refine take_u 22 48 rfl rfl (by kernel_rfl) (by kernel_rfl) (by kernel_rfl) (fun _ _ _ h => h) (by rfl) hHeld ?_
      simp only [Act.put, List.setIfInBounds_toArray, List.set_cons_zero, List.set_cons_succ]
      refine take_u 23 49 rfl rfl (by kernel_rfl) (by kernel_rfl) (by kernel_rfl) (fun _ _ _ h => h) (by rfl) hHeld ?_
      simp only [Act.put, List.setIfInBounds_toArray, List.set_cons_zero, List.set_cons_succ]
      refine take_u 24 50 rfl rfl (by kernel_rfl) (by kernel_rfl) (by kernel_rfl) (fun _ _ _ h => h) (by rfl) hHeld ?_
      simp only [Act.put, List.setIfInBounds_toArray, List.set_cons_zero, List.set_cons_succ]
      refine take_u 25 51 rfl rfl (by kernel_rfl) (by kernel_rfl) (by kernel_rfl) (fun _ _ _ h => h) (by rfl) hHeld ?_
      simp only [Act.put, List.setIfInBounds_toArray, List.set_cons_zero, List.set_cons_succ]
      refine take_u 26 52 rfl rfl (by kernel_rfl) (by kernel_rfl) (by kernel_rfl) (fun _ _ _ h => h) (by rfl) hHeld ?_
      simp only [Act.put, List.setIfInBounds_toArray, List.set_cons_zero, List.set_cons_succ]
      refine take_u 27 53 rfl rfl (by kernel_rfl) (by kernel_rfl) (by kernel_rfl) (fun _ _ _ h => h) (by rfl) hHeld ?_
      simp only [Act.put, List.setIfInBounds_toArray, List.set_cons_zero, List.set_cons_succ]
      refine take_t 28 54 (v := ?_) rfl rfl (by kernel_rfl) (by kernel_rfl) (by kernel_rfl) (fun _ _ _ h => h) (by rfl) hHeld ?_ ?_
      rotate_left
      · intro W hW
        (try dsimp only at hW)
        go_simp
        (try with_reducible rfl)
      simp only [Act.put, List.setIfInBounds_toArray, List.set_cons_zero, List.set_cons_succ]
      refine take_t 29 55 (v := ?_) rfl rfl (by kernel_rfl) (by kernel_rfl) (by kernel_rfl) (fun _ _ _ h => h) (by rfl) hHeld ?_ ?_
      rotate_left
      · intro W hW
        (try dsimp only at hW)
        go_simp
        (try with_reducible rfl)
      simp only [Act.put, List.setIfInBounds_toArray, List.set_cons_zero, List.set_cons_succ]
      refine take_t 30 2 (v := ?_) rfl rfl (by kernel_rfl) (by kernel_rfl) (by kernel_rfl) (fun _ _ _ h => h) (by rfl) hHeld ?_ ?_
      rotate_left
      · intro W hW
        (try dsimp only at hW)
        go_simp
        (try with_reducible rfl)
      simp only [Act.put, List.setIfInBounds_toArray, List.set_cons_zero, List.set_cons_succ]
      refine wpAnyH_done (by kernel_rfl) ?_ _
      go_wp2
      go_ret
      exact ⟨rfl, Sd.bel hHeld⟩
    by_cases hvd : vrow ds = true
    · obtain ⟨b, hb, -, -, rw1⟩ := S4.out.1.cut (by omega)
      obtain ⟨b', hb', -, -, rw2⟩ := S4.out.2.1.cut (by omega)
      have h1 := rw1.get 0 (by omega)
      have h2 := rw2.get 0 (by omega)
      have he : ds.getD 0 0 = zs.getD 0 0 := by rw [HDS.out]; exact div_head HV.out (by omega)
      rw [he] at h2
      obtain ⟨x, hx⟩ : ∃ x, x = zs.getD 0 0 := ⟨_, rfl⟩
      rw [← hx] at h1 h2
      clear hx he rw1 rw2
      subst hb hb'
      have HU := Lib.hid (show resUndivisorSums ds = zs by have := HDS.out; subst this; exact undiv_div HV.out hvd)
      have CV : ∀ W, Sd w (.slice (some ⟨b, 0, none⟩) zs.length c1) zs (.slice (some ⟨b', 0, none⟩) zs.length c2) ds W → Calls Try.prog 12 #[.slice (some ⟨b', 0, none⟩) zs.length c2] W fun e w' => e = .returned (.bool true) ∧ W = w' := fun W hS => hvd ▸ implValidRow_any _ _ ds hS.2.1.rd (by have := HDL.out; omega)
      have CU : ∀ W, Sd w (.slice (some ⟨b, 0, none⟩) zs.length c1) zs (.slice (some ⟨b', 0, none⟩) zs.length c2) ds W → Calls Try.prog 13 #[.slice (some ⟨b', 0, none⟩) zs.length c2] W fun e w' => ∃ r, e = .returned r ∧ Own w' w.heap.size r zs ∧ W.grownBy w' none := fun W hS => (implUndivisorSums_any _ _ ds hS.2.1.rd (by have := HDL.out; omega)).mono fun e w' ⟨r, h1, h2, h3⟩ => ⟨r, h1, (HU.out ▸ h2).mono hS.2.2.size, Below.grownBy h3⟩
      have S5 := S4.out
      clear HU HDL HDS HV S4
      obtain ⟨m, hm⟩ : ∃ m, m = zs.length := ⟨_, rfl⟩
      rw [← hm] at CV CU S5 hz hl p1 q1 ⊢
      have z1 : ((m : Int) == 0) = false := by rw [beq_eq_false_iff_ne]; omega
      have z2 : (0 : Int) < (m : Int) := by omega
      have z3 : 0 < m := by omega
      clear hm hz
      have HC := Lib.hid CV
      have HC2 := Lib.hid CU
      clear CV CU
      go_wp2_with fail
      go_region_held3 (fun w' => w'.cell? ⟨b, 0, none⟩ = some (.int .i64 x) ∧ w'.cell? ⟨b', 0, none⟩ = some (.int .i64 x) ∧ Sd w (.slice (some ⟨b, 0, none⟩) m c1) zs (.slice (some ⟨b', 0, none⟩) m c2) ds w') (first | exact ⟨h1, h2, S5.drew⟩ | assumption | (go_split_ands; exact ⟨cell_g (by assumption) g, cell_g (by assumption) g, Sd.step (by assumption) g⟩))
        ((first
          | (go_at_call 12; refine (HC.out _ ?_).mono ?_; (go_split_ands; assumption); rintro e w' ⟨rfl, rfl⟩)
          | (go_at_call 13; refine (HC2.out _ ?_).mono ?_; (go_split_ands; assumption); rintro e w' ⟨r, rfl, hr, g⟩)
          | (go_at_call 10; go_split_ands; refine (eq_yes _ _ _ zs zs hr.rd (Sd.row (by assumption)) rfl).mono ?_; rintro e w' ⟨rfl, g⟩)))
      all_goals (go_split_ands; go_wp2; go_ret; exact ⟨rfl, Sd.bel (by assumption)⟩)
    · have hvd' : vrow ds = false := by simpa using hvd
      clear hvd
      obtain ⟨b, hb, -, -, rw1⟩ := S4.out.1.cut (by omega)
      obtain ⟨b', hb', -, -, rw2⟩ := S4.out.2.1.cut (by omega)
      have h1 := rw1.get 0 (by omega)
      have h2 := rw2.get 0 (by omega)
      have he : ds.getD 0 0 = zs.getD 0 0 := by rw [HDS.out]; exact div_head HV.out (by omega)
      rw [he] at h2
      obtain ⟨x, hx⟩ : ∃ x, x = zs.getD 0 0 := ⟨_, rfl⟩
      rw [← hx] at h1 h2
      clear hx he rw1 rw2
      subst hb hb'
      have CV : ∀ W, Sd w (.slice (some ⟨b, 0, none⟩) zs.length c1) zs (.slice (some ⟨b', 0, none⟩) zs.length c2) ds W → Calls Try.prog 12 #[.slice (some ⟨b', 0, none⟩) zs.length c2] W fun e w' => e = .returned (.bool false) ∧ W = w' := fun W hS => hvd' ▸ implValidRow_any _ _ ds hS.2.1.rd (by have := HDL.out; omega)
      have S5 := S4.out
      clear HDL HDS HV S4
      obtain ⟨m, hm⟩ : ∃ m, m = zs.length := ⟨_, rfl⟩
      rw [← hm] at CV S5 hz hl p1 q1 ⊢
      have z1 : ((m : Int) == 0) = false := by rw [beq_eq_false_iff_ne]; omega
      have z2 : (0 : Int) < (m : Int) := by omega
      have z3 : 0 < m := by omega
      clear hm hz
      have HC := Lib.hid CV
      clear CV
      go_wp2_with fail
      go_quiet ((go_at_call 12; refine Calls.quiet_of_same ((HC.out _ (S5.drewN _)).mono fun _ _ h => ⟨h.1, h.2.symm⟩)))
      go_wp2
      go_ret
      exact ⟨rfl, (S5.drewN _).2.2⟩
  · have hv' : vrow zs = false := by simpa using hv
    refine ((show _ from hv' ▸ implValidRow_any _ _ zs s4.1.rd (by omega) : Calls Try.prog 12 #[.slice a1 zs.length c1] w4 fun e w' => e = .returned (.bool false) ∧ w4 = w')).mono ?_; rintro e w5 ⟨rfl, rfl⟩
    clear hv hv' hdm
    go_wp2_with fail
    refine (specDivisorSums_any _ _ zs s4.1.rd (by omega)).mono ?_; rintro e w6 ⟨vs, rfl, o6, bb⟩
    rw [← hds] at o6
    have s6 := s4.step (Below.grownBy bb)
    clear s4 bb
    go_wp2_with fail
    refine (eq_yes _ _ _ ds ds s6.2.1.rd o6.rd rfl).mono ?_; rintro e w7 ⟨rfl, g⟩
    have s7 := s6.step g
    clear s6 o6 g
    go_wp2_with fail
    go_ret
    exact ⟨rfl, s7.2.2⟩
end Go.Proofs.Ytnjnniaiajejeaa
