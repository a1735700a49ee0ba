/- The walk of FnUndivisorSums: for every code the law returns true and nothing that was there is changed. No conditions. -/
import Derived.Test.YtnjnniaiajejeaaLaw1
import Derived.Test.YtnjnniaiajejeaaDivLaw
namespace Go.Proofs.Ytnjnniaiajejeaa
open Go.RowKit
set_option maxHeartbeats 2000000 in
theorem law_FnUndivisorSums (w : World) (a : Option Addr) (n c : Nat) (bs : List Int) (h : Rdb w (.slice a n c) bs) :
    Calls Try.prog 4 #[.slice a n c] w fun e w' => e = .returned (.bool true) ∧ Below w.heap.size w w' := by
  have HN := Lib.hid (drawUndivisorSums_any w _ bs h)
  clear h
  by_cases hn : 1048576 < n
  · clear HN
    go_enter Try.func4, Try.ntmps4
    go_wp2
    go_ret
    exact ⟨rfl, Below.refl _ _⟩
  go_enter Try.func4, Try.ntmps4
  go_wp2_with fail
  refine HN.out.mono ?_; rintro e w1 ⟨r, zs, rfl, ho, hl, b1⟩
  clear HN
  obtain ⟨a1, c1, rfl, q1, q2, -⟩ := ho.rd
  unfold maxLen at q2
  obtain ⟨ds, hds⟩ : ∃ ds, ds = resUndivisorSums zs := ⟨_, rfl⟩
  have hdm : ds.length ≤ 1048576 := by rw [hds]; exact resUndivisorSums_len zs
  go_wp2_with fail
  refine (implUndivisorSums_any _ _ zs ho.rd (by omega)).mono ?_; rintro e w2 ⟨vo, rfl, o2, bb⟩
  rw [← hds] at o2
  have s2 : Sd w (.slice a1 zs.length c1) zs vo ds w2 := ⟨ho.keep (Below.grownBy bb), o2.mono b1.size, b1.grown (Below.grownBy bb) b1.size (by simp)⟩
  clear ho b1 bb o2
  go_wp2_with fail
  refine (specUndivisorSums_any _ _ zs s2.1.rd (by omega)).mono ?_; rintro e w3 ⟨vs, rfl, o3, bb⟩
  rw [← hds] at o3
  have s3 := s2.step (Below.grownBy bb)
  clear s2 bb
  go_wp2_with fail
  refine (eq_yes _ _ _ ds ds s3.2.1.rd o3.rd rfl).mono ?_; rintro e w4 ⟨rfl, g⟩
  have s4 := s3.step g
  clear s3 o3 g
  go_wp2_with fail
  by_cases hv : vrow zs = true
  · refine ((show _ from hv ▸ implValidRow_any _ _ zs s4.1.rd (by omega) : Calls Try.prog 12 #[.slice a1 zs.length c1] w4 fun e w' => e = .returned (.bool true) ∧ w4 = w')).mono ?_; rintro e w5 ⟨rfl, rfl⟩
    have hdl : ds.length = zs.length := by rw [hds]; exact undiv_len hv
    obtain ⟨a2, c2, rfl, p1, p2, -⟩ := s4.2.1.rd
    unfold maxLen at p2
    rw [hdl] at p1 s4 ⊢
    have HDL := Lib.hid hdl
    have HDS := Lib.hid hds
    have HV := Lib.hid hv
    have S4 := Lib.hid s4
    clear hdl hds s4 hdm hv
    by_cases hvd : vrow ds = true
    · have HU := Lib.hid (show resDivisorSums ds = zs by have := HDS.out; subst this; exact div_undiv HV.out hvd)
      have CV : ∀ W, Sd w (.slice a1 zs.length c1) zs (.slice a2 zs.length c2) ds W → Calls Try.prog 12 #[.slice a2 zs.length c2] W fun e w' => e = .returned (.bool true) ∧ W = w' := fun W hS => hvd ▸ implValidRow_any _ _ ds hS.2.1.rd (by have := HDL.out; omega)
      have CU : ∀ W, Sd w (.slice a1 zs.length c1) zs (.slice a2 zs.length c2) ds W → Calls Try.prog 9 #[.slice a2 zs.length c2] W fun e w' => ∃ r, e = .returned r ∧ Own w' w.heap.size r zs ∧ W.grownBy w' none := fun W hS => (implDivisorSums_any _ _ ds hS.2.1.rd (by have := HDL.out; omega)).mono fun e w' ⟨r, h1, h2, h3⟩ => ⟨r, h1, (HU.out ▸ h2).mono hS.2.2.size, Below.grownBy h3⟩
      have S5 := S4.out
      clear HU HDL HDS HV S4
      obtain ⟨m, hm⟩ : ∃ m, m = zs.length := ⟨_, rfl⟩
      rw [← hm] at CV CU S5 hl p1 q1 ⊢
      clear hm
      have HC := Lib.hid CV
      have HC2 := Lib.hid CU
      clear CV CU
      go_wp2_with fail
      refine (HC.out _ S5).mono ?_; rintro e w' ⟨rfl, rfl⟩
      go_wp2_with fail
      refine (HC2.out _ S5).mono ?_; rintro e w6 ⟨r, rfl, hr, g⟩
      have S6 := S5.step g
      clear S5 g
      go_wp2_with fail
      refine (eq_yes _ _ _ zs zs hr.rd S6.1.rd rfl).mono ?_; rintro e w7 ⟨rfl, g⟩
      have S7 := S6.step g
      go_wp2_with fail
      go_ret
      exact ⟨rfl, S7.2.2⟩
    · have hvd' : vrow ds = false := by simpa using hvd
      clear hvd
      have CV : ∀ W, Sd w (.slice a1 zs.length c1) zs (.slice a2 zs.length c2) ds W → Calls Try.prog 12 #[.slice a2 zs.length c2] W fun e w' => e = .returned (.bool false) ∧ W = w' := fun W hS => hvd' ▸ implValidRow_any _ _ ds hS.2.1.rd (by have := HDL.out; omega)
      have S5 := S4.out
      clear HDL HDS HV S4
      obtain ⟨m, hm⟩ : ∃ m, m = zs.length := ⟨_, rfl⟩
      rw [← hm] at CV S5 hl p1 q1 ⊢
      clear hm
      have HC := Lib.hid CV
      clear CV
      go_wp2_with fail
      refine (HC.out _ S5).mono ?_; rintro e w' ⟨rfl, rfl⟩
      go_wp2_with fail
      go_ret
      exact ⟨rfl, S5.2.2⟩
  · have hv' : vrow zs = false := by simpa using hv
    refine ((show _ from hv' ▸ implValidRow_any _ _ zs s4.1.rd (by omega) : Calls Try.prog 12 #[.slice a1 zs.length c1] w4 fun e w' => e = .returned (.bool false) ∧ w4 = w')).mono ?_; rintro e w5 ⟨rfl, rfl⟩
    clear hv hv' hdm
    go_wp2_with fail
    refine (specUndivisorSums_any _ _ zs s4.1.rd (by omega)).mono ?_; rintro e w6 ⟨vs, rfl, o6, bb⟩
    rw [← hds] at o6
    have s6 := s4.step (Below.grownBy bb)
    clear s4 bb
    go_wp2_with fail
    refine (eq_yes _ _ _ ds ds s6.2.1.rd o6.rd rfl).mono ?_; rintro e w7 ⟨rfl, g⟩
    have s7 := s6.step g
    clear s6 o6 g
    go_wp2_with fail
    go_ret
    exact ⟨rfl, s7.2.2⟩
end Go.Proofs.Ytnjnniaiajejeaa
