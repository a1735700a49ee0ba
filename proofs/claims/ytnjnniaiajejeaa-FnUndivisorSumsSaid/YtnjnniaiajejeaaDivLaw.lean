/- Sums over divisors are taken back, and the other way round: in plain lists. No conditions. -/
import Derived.Test.YtnjnniaiajejeaaUndiv1
namespace Go.Proofs.Ytnjnniaiajejeaa
open Go.RowKit
theorem dv_su (zs : List Int) (j d : Nat) : dv zs j d = su (fun i => zs.getD i 0) j d := by
  induction d with
  | zero => rfl
  | succ d ih => simp only [dv, su, ih]
theorem su_last (U : Nat → Int) (j : Nat) : su U j (j + 1) = su U j j + U j := by simp [su]
theorem undiv_of {zs ds : List Int} {L : Nat} (h : ∀ j, j < L → ds.getD j 0 = dv zs j (j + 1)) : ∀ j, j < L → uv ds j = zs.getD j 0 := by
  intro j
  induction j using Nat.strongRecOn with
  | _ j ih =>
    intro hj
    rw [uv_eq, h j hj, dv_su, su_last, su_congr (V := fun i => zs.getD i 0) (fun i hi => ih i hi (by omega))]
    omega
theorem div_of {zs us : List Int} {L : Nat} (h : ∀ j, j < L → us.getD j 0 = uv zs j) (j : Nat) (hj : j < L) : dv us j (j + 1) = zs.getD j 0 := by
  rw [dv_su, su_last, su_congr (V := uv zs) (fun i hi => h i (by omega)), h j hj, uv_eq zs j]
  omega
theorem undiv_div {zs : List Int} (h : vrow zs = true) (h' : vrow (resDivisorSums zs) = true) : resUndivisorSums (resDivisorSums zs) = zs := by
  have e : resDivisorSums zs = tab zs.length (fun j => dv zs j (j + 1)) := by rw [resDivisorSums, if_pos h]
  rw [resUndivisorSums, if_pos h', e, tab_len]
  conv => rhs; rw [tab_of zs]
  exact tab_congr fun j hj => undiv_of (L := zs.length) (fun i hi => tab_get _ _ hi) j hj
theorem div_undiv {zs : List Int} (h : vrow zs = true) (h' : vrow (resUndivisorSums zs) = true) : resDivisorSums (resUndivisorSums zs) = zs := by
  have e : resUndivisorSums zs = tab zs.length (uv zs) := by rw [resUndivisorSums, if_pos h]
  rw [resDivisorSums, if_pos h', e, tab_len]
  conv => rhs; rw [tab_of zs]
  exact tab_congr fun j hj => div_of (L := zs.length) (fun i hi => tab_get _ _ hi) j hj
theorem div_len {zs : List Int} (h : vrow zs = true) : (resDivisorSums zs).length = zs.length := by rw [resDivisorSums, if_pos h, tab_len]
theorem undiv_len {zs : List Int} (h : vrow zs = true) : (resUndivisorSums zs).length = zs.length := by rw [resUndivisorSums, if_pos h, tab_len]
theorem div_head {zs : List Int} (h : vrow zs = true) (hl : 0 < zs.length) : (resDivisorSums zs).getD 0 0 = zs.getD 0 0 := by
  rw [resDivisorSums, if_pos h, tab_get _ _ hl]
  simp [dv]
end Go.Proofs.Ytnjnniaiajejeaa
