/- The walk of FnDropSmall: for every code the law returns true and nothing that was there is changed. No conditions. -/
import Derived.Test.YtnjnniaiajejeaaLaw1
import Derived.Test.YtnjnniaiajejeaaDropLaw
namespace Go.Proofs.Ytnjnniaiajejeaa
open Go.RowKit
set_option maxHeartbeats 4000000 in
theorem law_FnDropSmall (w : World) (a : Option Addr) (n c : Nat) (bs : List Int) (h : Rdb w (.slice a n c) bs) :
    Calls Try.prog 7 #[.slice a n c] w fun e w' => e = .returned (.bool true) ∧ Below w.heap.size w w' := by
  have HN := Lib.hid (drawDropSmall_any w _ bs h)
  clear h
  by_cases hn : 1048576 < n
  · clear HN
    go_enter Try.func7, Try.ntmps7
    go_wp2
    go_ret
    exact ⟨rfl, Below.refl _ _⟩
  go_enter Try.func7, Try.ntmps7
  go_wp2_with fail
  refine HN.out.mono ?_; rintro e w1 ⟨r, zs, x, rfl, ho, hl, b1⟩
  clear HN
  obtain ⟨a1, c1, rfl, q1, q2, -⟩ := ho.rd
  unfold maxLen at q2
  obtain ⟨ds, hds⟩ : ∃ ds, ds = resDropSmall zs x := ⟨_, rfl⟩
  have hdm : ds.length ≤ 1048576 := by rw [hds]; exact resDropSmall_len zs x
  go_wp2_with fail
  refine (implDropSmall_any _ _ zs ho.rd (by omega) x).mono ?_; rintro e w2 ⟨vo, rfl, o2, bb⟩
  rw [← hds] at o2
  have s2 : Sd w (.slice a1 zs.length c1) zs vo ds w2 := ⟨ho.keep (Below.grownBy bb), o2.mono b1.size, b1.grown (Below.grownBy bb) b1.size (by simp)⟩
  clear ho b1 bb o2
  go_wp2_with fail
  refine (specDropSmall_any _ _ zs s2.1.rd (by omega) x).mono ?_; rintro e w3 ⟨vs, rfl, o3, bb⟩
  rw [← hds] at o3
  have s3 := s2.step (Below.grownBy bb)
  clear s2 bb
  go_wp2_with fail
  refine (eq_yes _ _ _ ds ds s3.2.1.rd o3.rd rfl).mono ?_; rintro e w4 ⟨rfl, g⟩
  have s4 := s3.step g
  clear s3 o3 g
  go_wp2_with fail
  have HBAD : ∀ W, Sd w (.slice a1 zs.length c1) zs vo ds W → Calls Try.prog 24 #[.slice a1 zs.length c1, .int .i64 x] W fun e w' => ∃ r, e = .returned r ∧ Own w' W.heap.size r ds ∧ W.grownBy w' none := fun W hS => (specDropSmall_any W _ zs hS.1.rd (by omega) x).mono fun e w' ⟨r, h1, h2, h3⟩ => ⟨r, h1, hds ▸ h2, Below.grownBy h3⟩
  have HB := Lib.hid HBAD
  clear HBAD
  by_cases hv : vrow zs = true
  · refine ((show _ from hv ▸ implValidRow_any _ _ zs s4.1.rd (by omega) : Calls Try.prog 12 #[.slice a1 zs.length c1] w4 fun e w' => e = .returned (.bool true) ∧ w4 = w')).mono ?_; rintro e w5 ⟨rfl, rfl⟩
    by_cases hx0 : 0 ≤ x
    · by_cases hx1 : x ≤ 1000
      · have hok : okDropSmall zs x = true := by simp [okDropSmall, hv, inB, hx0, hx1]
        have hdl : ds.length = zs.length := by rw [hds]; exact drop_len hok
        obtain ⟨a2, c2, rfl, p1, p2, -⟩ := s4.2.1.rd
        unfold maxLen at p2
        rw [hdl] at p1 s4 ⊢
        have CD : ∀ W, Sd w (.slice a1 zs.length c1) zs (.slice a2 zs.length c2) ds W → Calls Try.prog 23 #[.slice a2 zs.length c2, .int .i64 x] W fun e w' => ∃ r, e = .returned r ∧ Own w' W.heap.size r ds ∧ W.grownBy w' none := fun W hS => (implDropSmall_any W _ ds hS.2.1.rd (by omega) x).mono fun e w' ⟨r, h1, h2, h3⟩ => ⟨r, h1, by rw [hds, drop_drop hok] at h2; rw [hds]; exact h2, Below.grownBy h3⟩
        have CE1 : ∀ W, Sd w (.slice a1 zs.length c1) zs (.slice a2 zs.length c2) ds W → Calls Try.prog 19 #[.slice a2 zs.length c2] W fun e w' => e = .returned (.int .i64 (retEnergyOf ds)) ∧ W.grownBy w' none := fun W hS => enI W _ ds hS.2.1.rd (by omega)
        have CE2 : ∀ W, Sd w (.slice a1 zs.length c1) zs (.slice a2 zs.length c2) ds W → Calls Try.prog 19 #[.slice a1 zs.length c1] W fun e w' => e = .returned (.int .i64 (retEnergyOf zs)) ∧ W.grownBy w' none := fun W hS => enI W _ zs hS.1.rd (by omega)
        have hle : retEnergyOf ds ≤ retEnergyOf zs := by rw [hds]; exact drop_en hok
        have CT : ∀ W, Sd w (.slice a1 zs.length c1) zs (.slice a2 zs.length c2) ds W → Calls Try.prog 10 #[.slice a2 (zs.length - zs.length / 2) c2, .slice a1 (zs.length - zs.length / 2) c1] W fun e w' => e = .returned (.bool true) ∧ W.grownBy w' none := fun W hS => eq_yes W _ _ _ _ (hS.2.1.rd.take (by omega)) (hS.1.rd.take (by omega)) (by rw [hds]; exact drop_take hok)
        have HDZ := Lib.hid (show x ≤ 1 → ds = zs from fun h => by rw [hds]; exact drop_none hok h)
        obtain ⟨m, hm⟩ : ∃ m, m = zs.length := ⟨_, rfl⟩
        obtain ⟨E, hE⟩ : ∃ E, E = retEnergyOf zs := ⟨_, rfl⟩
        obtain ⟨F, hF⟩ : ∃ F, F = retEnergyOf ds := ⟨_, rfl⟩
        rw [← hm] at hl q1 p1 s4 CD CE1 CE2 CT HB ⊢
        rw [← hE] at CE2 hle
        rw [← hF] at CE1 hle
        obtain ⟨q, hq⟩ : ∃ q, q = m - m / 2 := ⟨_, rfl⟩
        rw [← hq] at CT
        have HD := Lib.hid CD
        have HE1 := Lib.hid CE1
        have HE2 := Lib.hid CE2
        have HT := Lib.hid CT
        have HQ := Lib.hid (show (m : Int) - (m : Int) / 2 = (q : Int) by omega)
        have hqm : q ≤ m := by omega
        have s5 := s4
        clear hm hE hF hq CD CE1 CE2 CT hds hdm hdl hok s4 HB hv
        have HS := Lib.hid s5
        clear s5
        have y1 : (0 : Int) ≤ (q : Int) := by omega
        have y2 : (q : Int) ≤ (c1 : Int) := by omega
        have y3 : (q : Int) ≤ (c2 : Int) := by omega
        go_wp2_with fail
        rw [HQ.out]
        have s5 := HS.out
        by_cases hx2 : 1 < x
        · refine wp_region_held_drew (S := (fun w' => Sd w (.slice a1 m c1) zs (.slice a2 m c2) ds w')) (by kernel_rfl) (s5.drew) (fun hHeld => ?_)
          refine take_t 0 48 (v := ?_) rfl rfl (by kernel_rfl) (by kernel_rfl) (by kernel_rfl) (fun _ _ _ h => h) (by rfl) hHeld ?_ ?_
          rotate_left
          · intro W hW
            (try dsimp only at hW)
            go_simp
            (try with_reducible rfl)
          simp only [Act.put, List.setIfInBounds_toArray, List.set_cons_zero, List.set_cons_succ]
          refine take_t 1 49 (v := ?_) rfl rfl (by kernel_rfl) (by kernel_rfl) (by kernel_rfl) (fun _ _ _ h => h) (by rfl) hHeld ?_ ?_
          rotate_left
          · intro W hW
            (try dsimp only at hW)
            go_simp
            (try with_reducible rfl)
          simp only [Act.put, List.setIfInBounds_toArray, List.set_cons_zero, List.set_cons_succ]
          refine take_t 3 51 (v := ?_) rfl rfl (by kernel_rfl) (by kernel_rfl) (by kernel_rfl) (fun _ _ _ h => h) (by rfl) hHeld ?_ ?_
          rotate_left
          · intro W hW
            (try dsimp only at hW)
            go_simp
            (try with_reducible rfl)
          simp only [Act.put, List.setIfInBounds_toArray, List.set_cons_zero, List.set_cons_succ]
          refine call_c 2 rfl (by kernel_rfl) (by rfl) (fun K hK => ?_)
          go_simp
          refine (HD.out _ hHeld).mono ?_; rintro e w5 ⟨rt, rfl, o5, g5⟩
          refine hK.out _ _ (Sd.step hHeld g5) (fun hHeld => ?_)
          clear hK K
          (try simp only [Act.put, List.setIfInBounds_toArray, List.set_cons_zero, List.set_cons_succ])
          refine call_c 4 rfl (by kernel_rfl) (by rfl) (fun K hK => ?_)
          go_simp
          refine (eq_yes _ _ _ ds ds o5.rd (Sd.out hHeld) rfl).mono ?_; rintro e w6 ⟨rfl, g6⟩
          refine hK.out _ _ (Sd.step hHeld g6) (fun hHeld => ?_)
          clear hK K
          (try simp only [Act.put, List.setIfInBounds_toArray, List.set_cons_zero, List.set_cons_succ])
          refine take_t 5 53 (v := ?_) rfl rfl (by kernel_rfl) (by kernel_rfl) (by kernel_rfl) (fun _ _ _ h => h) (by rfl) hHeld ?_ ?_
          rotate_left
          · intro W hW
            (try dsimp only at hW)
            go_simp
            (try with_reducible rfl)
          simp only [Act.put, List.setIfInBounds_toArray, List.set_cons_zero, List.set_cons_succ]
          refine take_t 6 54 (v := ?_) rfl rfl (by kernel_rfl) (by kernel_rfl) (by kernel_rfl) (fun _ _ _ h => h) (by rfl) hHeld ?_ ?_
          rotate_left
          · intro W hW
            (try dsimp only at hW)
            go_simp
            (try with_reducible rfl)
          simp only [Act.put, List.setIfInBounds_toArray, List.set_cons_zero, List.set_cons_succ]
          refine take_t 8 56 (v := ?_) rfl rfl (by kernel_rfl) (by kernel_rfl) (by kernel_rfl) (fun _ _ _ h => h) (by rfl) hHeld ?_ ?_
          rotate_left
          · intro W hW
            (try dsimp only at hW)
            go_simp
            (try with_reducible rfl)
          simp only [Act.put, List.setIfInBounds_toArray, List.set_cons_zero, List.set_cons_succ]
          refine call_c 7 rfl (by kernel_rfl) (by rfl) (fun K hK => ?_)
          go_simp
          refine (HE1.out _ hHeld).mono ?_; rintro e w7 ⟨rfl, g7⟩
          refine hK.out _ _ (Sd.step hHeld g7) (fun hHeld => ?_)
          clear hK K
          (try simp only [Act.put, List.setIfInBounds_toArray, List.set_cons_zero, List.set_cons_succ])
          refine call_c 9 rfl (by kernel_rfl) (by rfl) (fun K hK => ?_)
          go_simp
          refine (HE2.out _ hHeld).mono ?_; rintro e w8 ⟨rfl, g8⟩
          refine hK.out _ _ (Sd.step hHeld g8) (fun hHeld => ?_)
          clear hK K
          (try simp only [Act.put, List.setIfInBounds_toArray, List.set_cons_zero, List.set_cons_succ])
          refine take_t 10 58 (v := ?_) rfl rfl (by kernel_rfl) (by kernel_rfl) (by kernel_rfl) (fun _ _ _ h => h) (by rfl) hHeld ?_ ?_
          rotate_left
          · intro W hW
            (try dsimp only at hW)
            go_simp
            (try with_reducible rfl)
          simp only [Act.put, List.setIfInBounds_toArray, List.set_cons_zero, List.set_cons_succ]
          refine take_t 11 59 (v := ?_) rfl rfl (by kernel_rfl) (by kernel_rfl) (by kernel_rfl) (fun _ _ _ h => h) (by rfl) hHeld ?_ ?_
          rotate_left
          · intro W hW
            (try dsimp only at hW)
            go_simp
            (try with_reducible rfl)
          simp only [Act.put, List.setIfInBounds_toArray, List.set_cons_zero, List.set_cons_succ]
          refine take_t 12 60 (v := ?_) rfl rfl (by kernel_rfl) (by kernel_rfl) (by kernel_rfl) (fun _ _ _ h => h) (by rfl) hHeld ?_ ?_
          rotate_left
          · intro W hW
            (try dsimp only at hW)
            go_simp
            (try with_reducible rfl)
          simp only [Act.put, List.setIfInBounds_toArray, List.set_cons_zero, List.set_cons_succ]
          refine take_t 13 61 (v := ?_) rfl rfl (by kernel_rfl) (by kernel_rfl) (by kernel_rfl) (fun _ _ _ h => h) (by rfl) hHeld ?_ ?_
          rotate_left
          · intro W hW
            (try dsimp only at hW)
            go_simp
            (try with_reducible rfl)
          simp only [Act.put, List.setIfInBounds_toArray, List.set_cons_zero, List.set_cons_succ]
          refine take_t 14 62 (v := ?_) rfl rfl (by kernel_rfl) (by kernel_rfl) (by kernel_rfl) (fun _ _ _ h => h) (by rfl) hHeld ?_ ?_
          rotate_left
          · intro W hW
            (try dsimp only at hW)
            go_simp
            (try with_reducible rfl)
          simp only [Act.put, List.setIfInBounds_toArray, List.set_cons_zero, List.set_cons_succ]
          refine take_t 15 63 (v := ?_) rfl rfl (by kernel_rfl) (by kernel_rfl) (by kernel_rfl) (fun _ _ _ h => h) (by rfl) hHeld ?_ ?_
          rotate_left
          · intro W hW
            (try dsimp only at hW)
            go_simp
            (try with_reducible rfl)
          simp only [Act.put, List.setIfInBounds_toArray, List.set_cons_zero, List.set_cons_succ]
          refine take_t 16 64 (v := ?_) rfl rfl (by kernel_rfl) (by kernel_rfl) (by kernel_rfl) (fun _ _ _ h => h) (by rfl) hHeld ?_ ?_
          rotate_left
          · intro W hW
            (try dsimp only at hW)
            go_simp
            (try with_reducible rfl)
          simp only [Act.put, List.setIfInBounds_toArray, List.set_cons_zero, List.set_cons_succ]
          refine take_t 17 65 (v := ?_) rfl rfl (by kernel_rfl) (by kernel_rfl) (by kernel_rfl) (fun _ _ _ h => h) (by rfl) hHeld ?_ ?_
          rotate_left
          · intro W hW
            (try dsimp only at hW)
            go_simp
            (try with_reducible rfl)
          simp only [Act.put, List.setIfInBounds_toArray, List.set_cons_zero, List.set_cons_succ]
          refine take_t 18 66 (v := ?_) rfl rfl (by kernel_rfl) (by kernel_rfl) (by kernel_rfl) (fun _ _ _ h => h) (by rfl) hHeld ?_ ?_
          rotate_left
          · intro W hW
            (try dsimp only at hW)
            go_simp
            (try with_reducible rfl)
          simp only [Act.put, List.setIfInBounds_toArray, List.set_cons_zero, List.set_cons_succ]
          refine call_c 19 rfl (by kernel_rfl) (by rfl) (fun K hK => ?_)
          go_simp
          refine (HT.out _ hHeld).mono ?_; rintro e w9 ⟨rfl, g9⟩
          refine hK.out _ _ (Sd.step hHeld g9) (fun hHeld => ?_)
          clear hK K
          (try simp only [Act.put, List.setIfInBounds_toArray, List.set_cons_zero, List.set_cons_succ])
          refine take_t 20 68 (v := ?_) rfl rfl (by kernel_rfl) (by kernel_rfl) (by kernel_rfl) (fun _ _ _ h => h) (by rfl) hHeld ?_ ?_
          rotate_left
          · intro W hW
            (try dsimp only at hW)
            go_simp
            (try with_reducible rfl)
          simp only [Act.put, List.setIfInBounds_toArray, List.set_cons_zero, List.set_cons_succ]
          refine take_t 21 69 (v := ?_) rfl rfl (by kernel_rfl) (by kernel_rfl) (by kernel_rfl) (fun _ _ _ h => h) (by rfl) hHeld ?_ ?_
          rotate_left
          · intro W hW
            (try dsimp only at hW)
            go_simp
            (try with_reducible rfl)
          simp only [Act.put, List.setIfInBounds_toArray, List.set_cons_zero, List.set_cons_succ]
          refine take_t 22 70 (v := ?_) rfl rfl (by kernel_rfl) (by kernel_rfl) (by kernel_rfl) (fun _ _ _ h => h) (by rfl) hHeld ?_ ?_
          rotate_left
          · intro W hW
            (try dsimp only at hW)
            go_simp
            (try with_reducible rfl)
          simp only [Act.put, List.setIfInBounds_toArray, List.set_cons_zero, List.set_cons_succ]
          refine take_t 23 71 (v := ?_) rfl rfl (by kernel_rfl) (by kernel_rfl) (by kernel_rfl) (fun _ _ _ h => h) (by rfl) hHeld ?_ ?_
          rotate_left
          · intro W hW
            (try dsimp only at hW)
            go_simp
            (try with_reducible rfl)
          simp only [Act.put, List.setIfInBounds_toArray, List.set_cons_zero, List.set_cons_succ]
          refine take_t 24 72 (v := ?_) rfl rfl (by kernel_rfl) (by kernel_rfl) (by kernel_rfl) (fun _ _ _ h => h) (by rfl) hHeld ?_ ?_
          rotate_left
          · intro W hW
            (try dsimp only at hW)
            go_simp
            (try with_reducible rfl)
          simp only [Act.put, List.setIfInBounds_toArray, List.set_cons_zero, List.set_cons_succ]
          refine take_u 25 73 rfl rfl (by kernel_rfl) (by kernel_rfl) (by kernel_rfl) (fun _ _ _ h => h) (by rfl) hHeld ?_
          simp only [Act.put, List.setIfInBounds_toArray, List.set_cons_zero, List.set_cons_succ]
          refine take_u 26 74 rfl rfl (by kernel_rfl) (by kernel_rfl) (by kernel_rfl) (fun _ _ _ h => h) (by rfl) hHeld ?_
          simp only [Act.put, List.setIfInBounds_toArray, List.set_cons_zero, List.set_cons_succ]
          refine take_u 27 75 rfl rfl (by kernel_rfl) (by kernel_rfl) (by kernel_rfl) (fun _ _ _ h => h) (by rfl) hHeld ?_
          simp only [Act.put, List.setIfInBounds_toArray, List.set_cons_zero, List.set_cons_succ]
          refine take_t 28 76 (v := ?_) rfl rfl (by kernel_rfl) (by kernel_rfl) (by kernel_rfl) (fun _ _ _ h => h) (by rfl) hHeld ?_ ?_
          rotate_left
          · intro W hW
            (try dsimp only at hW)
            go_simp
            (try with_reducible rfl)
          simp only [Act.put, List.setIfInBounds_toArray, List.set_cons_zero, List.set_cons_succ]
          refine take_t 29 77 (v := ?_) rfl rfl (by kernel_rfl) (by kernel_rfl) (by kernel_rfl) (fun _ _ _ h => h) (by rfl) hHeld ?_ ?_
          rotate_left
          · intro W hW
            (try dsimp only at hW)
            go_simp
            (try with_reducible rfl)
          simp only [Act.put, List.setIfInBounds_toArray, List.set_cons_zero, List.set_cons_succ]
          refine take_t 30 2 (v := ?_) rfl rfl (by kernel_rfl) (by kernel_rfl) (by kernel_rfl) (fun _ _ _ h => h) (by rfl) hHeld ?_ ?_
          rotate_left
          · intro W hW
            (try dsimp only at hW)
            go_simp
            (try with_reducible rfl)
          simp only [Act.put, List.setIfInBounds_toArray, List.set_cons_zero, List.set_cons_succ]
          refine wpAnyH_done (by kernel_rfl) ?_ _
          go_wp2
          go_ret
          exact ⟨rfl, Sd.bel hHeld⟩
        · have hx3 : x ≤ 1 := by omega
          have HDZ := Lib.hid (HDZ.out hx3)
          have hdec : decide ((1 : Int) < x) = false := decide_eq_false (by omega)
          clear hx2
          refine wp_region_held_drew (S := (fun w' => Sd w (.slice a1 m c1) zs (.slice a2 m c2) ds w')) (by kernel_rfl) (s5.drew) (fun hHeld => ?_)
          refine take_t 0 48 (v := ?_) rfl rfl (by kernel_rfl) (by kernel_rfl) (by kernel_rfl) (fun _ _ _ h => h) (by rfl) hHeld ?_ ?_
          rotate_left
          · intro W hW
            (try dsimp only at hW)
            go_simp
            (try with_reducible rfl)
          simp only [Act.put, List.setIfInBounds_toArray, List.set_cons_zero, List.set_cons_succ]
          refine take_t 1 49 (v := ?_) rfl rfl (by kernel_rfl) (by kernel_rfl) (by kernel_rfl) (fun _ _ _ h => h) (by rfl) hHeld ?_ ?_
          rotate_left
          · intro W hW
            (try dsimp only at hW)
            go_simp
            (try with_reducible rfl)
          simp only [Act.put, List.setIfInBounds_toArray, List.set_cons_zero, List.set_cons_succ]
          refine take_t 3 51 (v := ?_) rfl rfl (by kernel_rfl) (by kernel_rfl) (by kernel_rfl) (fun _ _ _ h => h) (by rfl) hHeld ?_ ?_
          rotate_left
          · intro W hW
            (try dsimp only at hW)
            go_simp
            (try with_reducible rfl)
          simp only [Act.put, List.setIfInBounds_toArray, List.set_cons_zero, List.set_cons_succ]
          refine call_c 2 rfl (by kernel_rfl) (by rfl) (fun K hK => ?_)
          go_simp
          refine (HD.out _ hHeld).mono ?_; rintro e w5 ⟨rt, rfl, o5, g5⟩
          refine hK.out _ _ (Sd.step hHeld g5) (fun hHeld => ?_)
          clear hK K
          (try simp only [Act.put, List.setIfInBounds_toArray, List.set_cons_zero, List.set_cons_succ])
          refine call_c 4 rfl (by kernel_rfl) (by rfl) (fun K hK => ?_)
          go_simp
          refine (eq_yes _ _ _ ds ds o5.rd (Sd.out hHeld) rfl).mono ?_; rintro e w6 ⟨rfl, g6⟩
          refine hK.out _ _ (Sd.step hHeld g6) (fun hHeld => ?_)
          clear hK K
          (try simp only [Act.put, List.setIfInBounds_toArray, List.set_cons_zero, List.set_cons_succ])
          refine take_t 5 53 (v := ?_) rfl rfl (by kernel_rfl) (by kernel_rfl) (by kernel_rfl) (fun _ _ _ h => h) (by rfl) hHeld ?_ ?_
          rotate_left
          · intro W hW
            (try dsimp only at hW)
            go_simp
            (try with_reducible rfl)
          simp only [Act.put, List.setIfInBounds_toArray, List.set_cons_zero, List.set_cons_succ]
          refine take_t 6 54 (v := ?_) rfl rfl (by kernel_rfl) (by kernel_rfl) (by kernel_rfl) (fun _ _ _ h => h) (by rfl) hHeld ?_ ?_
          rotate_left
          · intro W hW
            (try dsimp only at hW)
            go_simp
            (try with_reducible rfl)
          simp only [Act.put, List.setIfInBounds_toArray, List.set_cons_zero, List.set_cons_succ]
          refine take_t 8 56 (v := ?_) rfl rfl (by kernel_rfl) (by kernel_rfl) (by kernel_rfl) (fun _ _ _ h => h) (by rfl) hHeld ?_ ?_
          rotate_left
          · intro W hW
            (try dsimp only at hW)
            go_simp
            (try with_reducible rfl)
          simp only [Act.put, List.setIfInBounds_toArray, List.set_cons_zero, List.set_cons_succ]
          refine call_c 7 rfl (by kernel_rfl) (by rfl) (fun K hK => ?_)
          go_simp
          refine (HE1.out _ hHeld).mono ?_; rintro e w7 ⟨rfl, g7⟩
          refine hK.out _ _ (Sd.step hHeld g7) (fun hHeld => ?_)
          clear hK K
          (try simp only [Act.put, List.setIfInBounds_toArray, List.set_cons_zero, List.set_cons_succ])
          refine call_c 9 rfl (by kernel_rfl) (by rfl) (fun K hK => ?_)
          go_simp
          refine (HE2.out _ hHeld).mono ?_; rintro e w8 ⟨rfl, g8⟩
          refine hK.out _ _ (Sd.step hHeld g8) (fun hHeld => ?_)
          clear hK K
          (try simp only [Act.put, List.setIfInBounds_toArray, List.set_cons_zero, List.set_cons_succ])
          refine take_t 10 58 (v := ?_) rfl rfl (by kernel_rfl) (by kernel_rfl) (by kernel_rfl) (fun _ _ _ h => h) (by rfl) hHeld ?_ ?_
          rotate_left
          · intro W hW
            (try dsimp only at hW)
            go_simp
            (try with_reducible rfl)
          simp only [Act.put, List.setIfInBounds_toArray, List.set_cons_zero, List.set_cons_succ]
          refine take_t 11 59 (v := ?_) rfl rfl (by kernel_rfl) (by kernel_rfl) (by kernel_rfl) (fun _ _ _ h => h) (by rfl) hHeld ?_ ?_
          rotate_left
          · intro W hW
            (try dsimp only at hW)
            go_simp
            (try with_reducible rfl)
          simp only [Act.put, List.setIfInBounds_toArray, List.set_cons_zero, List.set_cons_succ]
          refine take_t 12 60 (v := ?_) rfl rfl (by kernel_rfl) (by kernel_rfl) (by kernel_rfl) (fun _ _ _ h => h) (by rfl) hHeld ?_ ?_
          rotate_left
          · intro W hW
            (try dsimp only at hW)
            go_simp
            (try with_reducible rfl)
          simp only [Act.put, List.setIfInBounds_toArray, List.set_cons_zero, List.set_cons_succ]
          refine take_t 13 61 (v := ?_) rfl rfl (by kernel_rfl) (by kernel_rfl) (by kernel_rfl) (fun _ _ _ h => h) (by rfl) hHeld ?_ ?_
          rotate_left
          · intro W hW
            (try dsimp only at hW)
            go_simp
            (try with_reducible rfl)
          simp only [Act.put, List.setIfInBounds_toArray, List.set_cons_zero, List.set_cons_succ]
          refine take_t 14 62 (v := ?_) rfl rfl (by kernel_rfl) (by kernel_rfl) (by kernel_rfl) (fun _ _ _ h => h) (by rfl) hHeld ?_ ?_
          rotate_left
          · intro W hW
            (try dsimp only at hW)
            go_simp
            (try with_reducible rfl)
          simp only [Act.put, List.setIfInBounds_toArray, List.set_cons_zero, List.set_cons_succ]
          refine take_t 15 63 (v := ?_) rfl rfl (by kernel_rfl) (by kernel_rfl) (by kernel_rfl) (fun _ _ _ h => h) (by rfl) hHeld ?_ ?_
          rotate_left
          · intro W hW
            (try dsimp only at hW)
            go_simp
            (try with_reducible rfl)
          simp only [Act.put, List.setIfInBounds_toArray, List.set_cons_zero, List.set_cons_succ]
          refine take_t 16 64 (v := ?_) rfl rfl (by kernel_rfl) (by kernel_rfl) (by kernel_rfl) (fun _ _ _ h => h) (by rfl) hHeld ?_ ?_
          rotate_left
          · intro W hW
            (try dsimp only at hW)
            go_simp
            (try with_reducible rfl)
          simp only [Act.put, List.setIfInBounds_toArray, List.set_cons_zero, List.set_cons_succ]
          refine take_t 17 65 (v := ?_) rfl rfl (by kernel_rfl) (by kernel_rfl) (by kernel_rfl) (fun _ _ _ h => h) (by rfl) hHeld ?_ ?_
          rotate_left
          · intro W hW
            (try dsimp only at hW)
            go_simp
            (try with_reducible rfl)
          simp only [Act.put, List.setIfInBounds_toArray, List.set_cons_zero, List.set_cons_succ]
          refine take_t 18 66 (v := ?_) rfl rfl (by kernel_rfl) (by kernel_rfl) (by kernel_rfl) (fun _ _ _ h => h) (by rfl) hHeld ?_ ?_
          rotate_left
          · intro W hW
            (try dsimp only at hW)
            go_simp
            (try with_reducible rfl)
          simp only [Act.put, List.setIfInBounds_toArray, List.set_cons_zero, List.set_cons_succ]
          refine call_c 19 rfl (by kernel_rfl) (by rfl) (fun K hK => ?_)
          go_simp
          refine (HT.out _ hHeld).mono ?_; rintro e w9 ⟨rfl, g9⟩
          refine hK.out _ _ (Sd.step hHeld g9) (fun hHeld => ?_)
          clear hK K
          (try simp only [Act.put, List.setIfInBounds_toArray, List.set_cons_zero, List.set_cons_succ])
          refine take_t 20 68 (v := ?_) rfl rfl (by kernel_rfl) (by kernel_rfl) (by kernel_rfl) (fun _ _ _ h => h) (by rfl) hHeld ?_ ?_
          rotate_left
          · intro W hW
            (try dsimp only at hW)
            go_simp
            (try with_reducible rfl)
          simp only [Act.put, List.setIfInBounds_toArray, List.set_cons_zero, List.set_cons_succ]
          refine take_t 21 69 (v := ?_) rfl rfl (by kernel_rfl) (by kernel_rfl) (by kernel_rfl) (fun _ _ _ h => h) (by rfl) hHeld ?_ ?_
          rotate_left
          · intro W hW
            (try dsimp only at hW)
            go_simp
            (try with_reducible rfl)
          simp only [Act.put, List.setIfInBounds_toArray, List.set_cons_zero, List.set_cons_succ]
          refine take_t 22 70 (v := ?_) rfl rfl (by kernel_rfl) (by kernel_rfl) (by kernel_rfl) (fun _ _ _ h => h) (by rfl) hHeld ?_ ?_
          rotate_left
          · intro W hW
            (try dsimp only at hW)
            go_simp
            (try with_reducible rfl)
          simp only [Act.put, List.setIfInBounds_toArray, List.set_cons_zero, List.set_cons_succ]
          refine take_t 23 71 (v := ?_) rfl rfl (by kernel_rfl) (by kernel_rfl) (by kernel_rfl) (fun _ _ _ h => h) (by rfl) hHeld ?_ ?_
          rotate_left
          · intro W hW
            (try dsimp only at hW)
            go_simp
            (try with_reducible rfl)
          simp only [Act.put, List.setIfInBounds_toArray, List.set_cons_zero, List.set_cons_succ]
          refine take_t 24 72 (v := ?_) rfl rfl (by kernel_rfl) (by kernel_rfl) (by kernel_rfl) (fun _ _ _ h => h) (by rfl) hHeld ?_ ?_
          rotate_left
          · intro W hW
            (try dsimp only at hW)
            go_simp
            (try with_reducible rfl)
          simp only [Act.put, List.setIfInBounds_toArray, List.set_cons_zero, List.set_cons_succ]
          refine take_t 25 73 (v := ?_) rfl rfl (by kernel_rfl) (by kernel_rfl) (by kernel_rfl) (fun _ _ _ h => h) (by rfl) hHeld ?_ ?_
          rotate_left
          · intro W hW
            (try dsimp only at hW)
            go_simp
            (try with_reducible rfl)
          simp only [Act.put, List.setIfInBounds_toArray, List.set_cons_zero, List.set_cons_succ]
          refine take_t 26 74 (v := ?_) rfl rfl (by kernel_rfl) (by kernel_rfl) (by kernel_rfl) (fun _ _ _ h => h) (by rfl) hHeld ?_ ?_
          rotate_left
          · intro W hW
            (try dsimp only at hW)
            go_simp
            (try with_reducible rfl)
          simp only [Act.put, List.setIfInBounds_toArray, List.set_cons_zero, List.set_cons_succ]
          refine call_c 27 rfl (by kernel_rfl) (by rfl) (fun K hK => ?_)
          go_simp
          refine (eq_yes _ _ _ ds zs (Sd.out hHeld) (Sd.row hHeld) HDZ.out).mono ?_; rintro e w10 ⟨rfl, g10⟩
          refine hK.out _ _ (Sd.step hHeld g10) (fun hHeld => ?_)
          clear hK K
          (try simp only [Act.put, List.setIfInBounds_toArray, List.set_cons_zero, List.set_cons_succ])
          refine take_t 28 76 (v := ?_) rfl rfl (by kernel_rfl) (by kernel_rfl) (by kernel_rfl) (fun _ _ _ h => h) (by rfl) hHeld ?_ ?_
          rotate_left
          · intro W hW
            (try dsimp only at hW)
            go_simp
            (try with_reducible rfl)
          simp only [Act.put, List.setIfInBounds_toArray, List.set_cons_zero, List.set_cons_succ]
          refine take_t 29 77 (v := ?_) rfl rfl (by kernel_rfl) (by kernel_rfl) (by kernel_rfl) (fun _ _ _ h => h) (by rfl) hHeld ?_ ?_
          rotate_left
          · intro W hW
            (try dsimp only at hW)
            go_simp
            (try with_reducible rfl)
          simp only [Act.put, List.setIfInBounds_toArray, List.set_cons_zero, List.set_cons_succ]
          refine take_t 30 2 (v := ?_) rfl rfl (by kernel_rfl) (by kernel_rfl) (by kernel_rfl) (fun _ _ _ h => h) (by rfl) hHeld ?_ ?_
          rotate_left
          · intro W hW
            (try dsimp only at hW)
            go_simp
            (try with_reducible rfl)
          simp only [Act.put, List.setIfInBounds_toArray, List.set_cons_zero, List.set_cons_succ]
          refine wpAnyH_done (by kernel_rfl) ?_ _
          go_wp2
          go_ret
          exact ⟨rfl, Sd.bel hHeld⟩
      · go_wp2_with fail
        refine (HB.out _ s4).mono ?_; rintro e w6 ⟨vs, rfl, o6, g⟩
        have s6 := s4.step g
        clear s4 g HB
        go_wp2_with fail
        refine (eq_yes _ _ _ ds ds s6.2.1.rd o6.rd rfl).mono ?_; rintro e w7 ⟨rfl, g⟩
        have s7 := s6.step g
        clear s6 o6 g
        go_wp2_with fail
        go_ret
        exact ⟨rfl, s7.2.2⟩
    · go_wp2_with fail
      refine (HB.out _ s4).mono ?_; rintro e w6 ⟨vs, rfl, o6, g⟩
      have s6 := s4.step g
      clear s4 g HB
      go_wp2_with fail
      refine (eq_yes _ _ _ ds ds s6.2.1.rd o6.rd rfl).mono ?_; rintro e w7 ⟨rfl, g⟩
      have s7 := s6.step g
      clear s6 o6 g
      go_wp2_with fail
      go_ret
      exact ⟨rfl, s7.2.2⟩
  · have hv' : vrow zs = false := by simpa using hv
    refine ((show _ from hv' ▸ implValidRow_any _ _ zs s4.1.rd (by omega) : Calls Try.prog 12 #[.slice a1 zs.length c1] w4 fun e w' => e = .returned (.bool false) ∧ w4 = w')).mono ?_; rintro e w5 ⟨rfl, rfl⟩
    go_wp2_with fail
    refine (HB.out _ s4).mono ?_; rintro e w6 ⟨vs, rfl, o6, g⟩
    have s6 := s4.step g
    clear s4 g HB
    go_wp2_with fail
    refine (eq_yes _ _ _ ds ds s6.2.1.rd o6.rd rfl).mono ?_; rintro e w7 ⟨rfl, g⟩
    have s7 := s6.step g
    clear s6 o6 g
    go_wp2_with fail
    go_ret
    exact ⟨rfl, s7.2.2⟩
end Go.Proofs.Ytnjnniaiajejeaa
