/- One byte of a chunk turned. -/
import Derived.Test.YthndlhflkbidiaaCkMore
namespace Go.Proofs.Ythndlhflkbidiaa
open Go.RowKit

theorem ckB_pad (k f : Nat) (xs : List UInt8) : (ckB k f xs).drop (4 + xs.length) = List.replicate (up (4 + xs.length) - (4 + xs.length)) 0 := by
  unfold ckB padded
  rw [ckRaw_length, List.drop_append_of_le_length (by rw [ckRaw_length]; omega), List.drop_of_length_le (by rw [ckRaw_length]; omega)]
  rfl
theorem ckLen_set (b : List UInt8) (j : Nat) (v : UInt8) (h2 : j ≠ 2) (h3 : j ≠ 3) : ckLen (b.set j v) = ckLen b := by
  unfold ckLen
  rw [List.drop_set]
  split
  · rfl
  · rw [List.take_set, List.set_eq_of_length_le (by simp; omega)]
/-- Where the padding stands no byte but 0 may stand. -/
theorem ck_set_pad (k f : Nat) (xs : List UInt8) (j : Nat) (v : UInt8) (h : xs.length ≤ 65531) (hj : 4 + xs.length ≤ j) (hlt : j < up (4 + xs.length)) : ckOk ((ckB k f xs).set j v) = (v == 0) := by
  have hu := up_le (4 + xs.length)
  have hl := ckB_length k f xs
  unfold ckOk
  rw [ckLen_set _ _ _ (by omega) (by omega), ckLen_ckB _ _ _ h, List.drop_set, if_neg (by omega), ckB_pad]
  rw [List.take_of_length_le (by simp)]
  simp only [List.length_set, hl]
  rw [decide_eq_true (by omega : 4 ≤ up (4 + xs.length)), decide_eq_true (by omega : 4 ≤ 4 + xs.length), decide_eq_true (by omega : up (4 + xs.length) ≤ up (4 + xs.length))]
  simp only [Bool.true_and]
  unfold allz
  rw [Bool.eq_iff_iff, List.all_eq_true]
  simp only [beq_iff_eq]
  constructor
  · intro ha
    refine ha v ?_
    rw [List.mem_iff_getElem]
    exact ⟨j - (4 + xs.length), by simp; omega, by simp⟩
  · rintro rfl x hx
    rw [List.mem_iff_getElem] at hx
    obtain ⟨i, hi, rfl⟩ := hx
    rw [List.getElem_set]
    split <;> simp
theorem ck_set_ok (k f : Nat) (xs : List UInt8) (j : Nat) (v : UInt8) (h : xs.length ≤ 65531) (hj : j < 4 + xs.length) (h2 : j ≠ 2) (h3 : j ≠ 3) : ckOk ((ckB k f xs).set j v) = true := by
  have hu := up_le (4 + xs.length)
  have hl := ckB_length k f xs
  unfold ckOk
  rw [ckLen_set _ _ _ h2 h3, ckLen_ckB _ _ _ h, List.drop_set, if_pos (by omega), ckB_pad]
  simp only [List.length_set, hl]
  rw [decide_eq_true (by omega : 4 ≤ up (4 + xs.length)), decide_eq_true (by omega : 4 ≤ 4 + xs.length), decide_eq_true (by omega : up (4 + xs.length) ≤ up (4 + xs.length))]
  simp [allz]
theorem gb_set (b : List UInt8) (j : Nat) (v : UInt8) (h : j < b.length) : gb (b.set j v) j = v.toNat := by
  rw [gb_get _ _ (by simpa using h)]
  simp
theorem gb_mid (b : List UInt8) (j m n : Nat) (h : j < n) : gb ((b.drop m).take n) j = gb b (m + j) := by
  unfold gb
  simp [List.getD, h]
theorem Bo.set_ {w : World} {base : Nat} {A : Option Addr} {n c : Nat} {xs : List UInt8} (h : Bo w base A n c xs) (j : Nat) (v : UInt8) (hj : j < n) :
    ∃ g, A = some ⟨g, 0, none⟩ ∧ base ≤ g ∧ w.cell? ⟨g, j, none⟩ = some (.int .u8 (gb xs j : Int)) ∧ w.frozen? ⟨g, j, none⟩ = false ∧ Bo (w.setCell ⟨g, j, none⟩ (.int .u8 (v.toNat : Int))) base A n c (xs.set j v) := by
  obtain ⟨g, ys, rfl, hb, hl, hB⟩ := h.blk (by have := h.2.1; omega)
  have hlen := h.len
  have e1 : gb (xs ++ ys) j = gb xs j := by
    unfold gb
    simp [List.getD, List.getElem?_append, show j < xs.length by omega]
  have hc := hB.cell (k := j) (by simp; omega)
  rw [e1] at hc
  refine ⟨g, rfl, hb, hc, hB.frozen j, ?_⟩
  have hs := hB.set_ j v.toNat v.toNat_lt
  rw [show UInt8.ofNat v.toNat = v by simp, List.set_append_left _ _ (by omega)] at hs
  exact Blk.bo hs hb (by simpa using hlen) hl h.2.2.1
end Go.Proofs.Ythndlhflkbidiaa
