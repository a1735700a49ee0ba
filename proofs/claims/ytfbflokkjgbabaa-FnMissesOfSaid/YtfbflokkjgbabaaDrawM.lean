/- The draws of texts: what comes out are short texts; nothing that was there is changed. Conditions: few draws ahead. -/
import Derived.Test.YtfbflokkjgbabaaReader
namespace Go.Proofs.Ytfbflokkjgbabaa
open Go.RowKit
set_option maxHeartbeats 400000 in
theorem of_some (w0 w : World) (R m g c : Nat) (xs : List ByteArray) (n : Nat) (hn0 : xs.length = n) (hn : 1 ≤ n) (hn2 : n ≤ 1000) (h : Rs w0 w R m) (hm : m ≤ 100000) (hg : R < g) (hgs : g < w.heap.size)
    (hc : ∀ k, k < n → w.cell? ⟨g, k, none⟩ = some (.string (xs.getD k ByteArray.empty))) :
    Calls Try.prog 37 #[.pointer (some ⟨R, 0, none⟩), .slice (some ⟨g, 0, none⟩) n c] w fun e w' => ∃ x : ByteArray, e = .returned (.string x) ∧ x ∈ xs ∧ Rs w0 w' R (m + 1) := by
  have HP := Lib.hid (pick_any w0 w R m (n : Int) h hm (by omega))
  have HG := Lib.hid hc
  have HL := Lib.hid hn0
  clear h hc hn0
  go_enter Try.func37, Try.ntmps37
  go_wp2_with fail
  refine HP.out.mono ?_; rintro e w1 ⟨k, rfl, k1, k2, hs, hgr⟩
  obtain ⟨k, rfl⟩ := Int.eq_ofNat_of_zero_le k1
  have hc : w1.cell? ⟨g, k, none⟩ = some (.string (xs.getD k ByteArray.empty)) := (World.cell?_of_block (w := w) (hgr.block g hgs (by simp; omega))).trans (HG.out k (by omega))
  have HM := Lib.hid (show xs.getD k ByteArray.empty ∈ xs by have := HL.out; rw [List.getD_eq_getElem?_getD, List.getElem?_eq_getElem (by omega)]; exact List.getElem_mem _)
  obtain ⟨x, hx⟩ : ∃ x, x = xs.getD k ByteArray.empty := ⟨_, rfl⟩
  rw [← hx] at hc HM
  clear hx HG HP
  go_wp2_with fail
  go_ret
  exact ⟨x, rfl, HM.out, hs⟩
theorem of_lit (w0 w : World) (R m : Nat) (xs : List ByteArray) (n T : Nat) (hn0 : xs.length = n) (hn : 1 ≤ n) (hn2 : n ≤ 1000) (h : Rs w0 w R m) (hm : m ≤ 100000) :
    Calls Try.prog 37 #[.pointer (some ⟨R, 0, none⟩), .slice (some ⟨w.heap.size, 0, none⟩) n n] (w.alloc (.cells (xs.map Value.string).toArray T)) fun e w' => ∃ x : ByteArray, e = .returned (.string x) ∧ x ∈ xs ∧ Rs w0 w' R (m + 1) :=
  of_some w0 _ R m _ n xs n hn0 hn hn2 (h.alloc _) hm h.2.2.2 (by simp) fun k hk => by
    rw [World.cell?_alloc_new]
    simp [show k < xs.length by omega]
set_option maxHeartbeats 2000000 in
theorem someMatch_any (w0 w : World) (R m : Nat) (h : Rs w0 w R m) (hm : m ≤ 900) :
    Calls Try.prog 28 #[.pointer (some ⟨R, 0, none⟩)] w fun e w' => ∃ s p : ByteArray, e = .returned (.tuple #[.string s, .string p]) ∧ s.size ≤ 40 ∧ p.size ≤ 40 ∧ Rs w0 w' R (m + 60) := by
  go_enter Try.func28, Try.ntmps28
  go_wp2_with fail
  refine (one_any w0 _ R m _ [8, 12, 5, 20, 3, 1, 0] 7 rfl (by omega) (by omega) (h.alloc _) (by omega) (Own.lit (by have := h.2.2.2; omega) _ (by unfold maxLen; simp))).mono ?_
  rintro e w1 ⟨x, rfl, hmem, s1, -⟩
  have hx : 0 ≤ x ∧ x ≤ 20 := by simp at hmem; omega
  obtain ⟨hx0, hx1⟩ := hx
  obtain ⟨n, rfl⟩ := Int.eq_ofNat_of_zero_le hx0
  clear hmem h hx0
  have hn20 : n ≤ 20 := by omega
  go_wp2
  go_loopw [4] (fun t wr => ∃ s : ByteArray, t = .string s ∧ s.size ≤ n ∧ Rs w0 wr R (m + 1 + s.size)) (fun t _ => match t with | .string s => n - s.size | _ => 0)
  case atStart => exact ⟨⟨#[]⟩, rfl, Nat.zero_le _, s1⟩
  case round =>
    clear s1
    obtain ⟨s, rfl, hs, s2⟩ := hrel
    by_cases hlt : s.size < n
    · have hlti : (s.size : Int) < (n : Int) := by omega
      go_wp2_with fail
      refine (of_lit w0 _ R _ [⟨#[97]⟩, ⟨#[98]⟩, ⟨#[97]⟩, ⟨#[98]⟩, ⟨#[99]⟩, ⟨#[100]⟩] 6 _ rfl (by omega) (by omega) s2 (by omega)).mono ?_
      rintro e w3 ⟨y, rfl, hy, s3⟩
      have hall : ∀ y ∈ ([⟨#[97]⟩, ⟨#[98]⟩, ⟨#[97]⟩, ⟨#[98]⟩, ⟨#[99]⟩, ⟨#[100]⟩] : List ByteArray), y.size = 1 := by decide
      have hy1 := hall y hy
      have hadd : (Op.stringOp .add s y).run Try.prog w3 = .ok (.string (s ++ y)) w3 := run_string_add_sum _ _ _ (by omega)
      have hsz : (s ++ y).size = s.size + 1 := by rw [ByteArray.size_append, hy1]
      have HZ := Lib.hid hsz
      clear hall hy hsz s2
      go_wp2_with fail
      clear hadd
      go_roundw
      case rel => exact ⟨s ++ y, rfl, by rw [HZ.out]; omega, s3.mono (by rw [HZ.out]; omega)⟩
      case measure => have := HZ.out; simp; omega
    · have hlti : (n : Int) ≤ (s.size : Int) := by omega
      have hs40 : s.size ≤ 20 := by omega
      have s3 : Rs w0 wr R (m + 21) := s2.mono (by omega)
      clear s2
      go_wp2_with fail
      refine (one_any w0 _ R _ _ [2, 3, 1, 4, 0, 5] 6 rfl (by omega) (by omega) (s3.alloc _) (by omega) (Own.lit (by have := s3.2.2.2; omega) _ (by unfold maxLen; simp))).mono ?_
      rintro e w4 ⟨x, rfl, hmem, s4, -⟩
      have hx : 0 ≤ x ∧ x ≤ 5 := by simp at hmem; omega
      obtain ⟨hx0, hx1⟩ := hx
      obtain ⟨q, rfl⟩ := Int.eq_ofNat_of_zero_le hx0
      clear hmem hx0 s3
      have hq5 : q ≤ 5 := by omega
      go_wp2
      go_loopw [6] (fun t wr => ∃ p : ByteArray, t = .string p ∧ p.size ≤ q ∧ Rs w0 wr R (m + 22 + p.size)) (fun t _ => match t with | .string p => q - p.size | _ => 0)
      case atStart => exact ⟨⟨#[]⟩, rfl, Nat.zero_le _, s4⟩
      case round =>
        clear s4
        obtain ⟨p, rfl, hp, s5⟩ := hrel
        by_cases hltp : p.size < q
        · have hltpi : (p.size : Int) < (q : Int) := by omega
          go_wp2_with fail
          refine (of_lit w0 _ R _ [⟨#[97]⟩, ⟨#[98]⟩, ⟨#[63]⟩, ⟨#[97]⟩, ⟨#[98]⟩, ⟨#[99]⟩] 6 _ rfl (by omega) (by omega) s5 (by omega)).mono ?_
          rintro e w6 ⟨y, rfl, hy, s6⟩
          have hall : ∀ y ∈ ([⟨#[97]⟩, ⟨#[98]⟩, ⟨#[63]⟩, ⟨#[97]⟩, ⟨#[98]⟩, ⟨#[99]⟩] : List ByteArray), y.size = 1 := by decide
          have hy1 := hall y hy
          have hadd : (Op.stringOp .add p y).run Try.prog w6 = .ok (.string (p ++ y)) w6 := run_string_add_sum _ _ _ (by omega)
          have hsz : (p ++ y).size = p.size + 1 := by rw [ByteArray.size_append, hy1]
          have HZ := Lib.hid hsz
          clear hall hy hsz s5
          go_wp2_with fail
          clear hadd
          go_roundw
          case rel => exact ⟨p ++ y, rfl, by rw [HZ.out]; omega, s6.mono (by rw [HZ.out]; omega)⟩
          case measure => have := HZ.out; simp; omega
        · have hltpi : (q : Int) ≤ (p.size : Int) := by omega
          have s6 : Rs w0 wr R (m + 27) := s5.mono (by omega)
          have hp40 : p.size ≤ 5 := by omega
          clear s5
          go_wp2_with fail
          refine (pick_any w0 _ R _ 24 s6 (by omega) (by omega)).mono ?_; rintro e w7 ⟨k, rfl, k0, k1, s7, -⟩
          clear s6
          by_cases hk : k = 0
          · subst hk
            go_wp2_with fail
            refine (of_lit w0 _ R _ [⟨#[63]⟩, ⟨#[101]⟩] 2 _ rfl (by omega) (by omega) s7 (by omega)).mono ?_
            rintro e w8 ⟨y, rfl, hy, s8⟩
            have hall : ∀ y ∈ ([⟨#[63]⟩, ⟨#[101]⟩] : List ByteArray), y.size = 1 := by decide
            have hy1 := hall y hy
            have hadd : (Op.stringOp .add s y).run Try.prog w8 = .ok (.string (s ++ y)) w8 := run_string_add_sum _ _ _ (by omega)
            have hsz : (s ++ y).size = s.size + 1 := by rw [ByteArray.size_append, hy1]
            clear hall hy
            go_wp2_with fail
            go_ret2
            exact ⟨s ++ y, p, rfl, by omega, by omega, s8.mono (by omega)⟩
          · go_wp2_with fail
            go_ret2
            exact ⟨s, p, rfl, by omega, by omega, s7.mono (by omega)⟩
theorem drawMissesOf_any (w : World) (v : Value) (bs : List Int) (h : Rdb w v bs) :
    Calls Try.prog 16 #[v] w fun e w' => ∃ s p : ByteArray, e = .returned (.tuple #[.string s, .string p]) ∧ s.size ≤ 40 ∧ p.size ≤ 40 ∧ Below w.heap.size w w' := by
  have HN := Lib.hid (newReader_any w v bs h)
  clear h
  go_enter Try.func16, Try.ntmps16
  go_wp2_with fail
  refine HN.out.mono ?_; rintro e w1 ⟨R, rfl, s1⟩
  go_wp2_with fail
  refine (someMatch_any w _ R 0 s1 (by omega)).mono ?_
  rintro e w2 ⟨s, p, rfl, hs, hp, s2⟩
  go_wp2_with fail
  go_ret2
  exact ⟨_, _, rfl, hs, hp, s2.2.1⟩
end Go.Proofs.Ytfbflokkjgbabaa
