/- More of the plain law of a chunk's bytes. -/
import Derived.Test.YthndlhflkbidiaaWorks08
namespace Go.Proofs.Ythndlhflkbidiaa
open Go.RowKit

theorem ckLen_take (b : List UInt8) (m : Nat) (h : 4 ≤ m) : ckLen (b.take m) = ckLen b := by
  unfold ckLen
  rw [List.drop_take, List.take_take, show min 2 (m - 2) = 2 by omega]
theorem ckLen_app (b more : List UInt8) (h : 4 ≤ b.length) : ckLen (b ++ more) = ckLen b := by
  unfold ckLen
  rw [List.drop_append_of_le_length (by omega), List.take_append_of_le_length (by simp; omega)]
theorem ckB_eq (k f : Nat) (xs : List UInt8) : ckB k f xs = UInt8.ofNat k :: UInt8.ofNat f :: (nb (4 + xs.length) 2 ++ (xs ++ List.replicate (up (4 + xs.length) - (4 + xs.length)) 0)) := by
  unfold ckB padded
  rw [ckRaw_length]
  simp [ckRaw]
theorem ckLen_ckB (k f : Nat) (xs : List UInt8) (h : xs.length ≤ 65531) : ckLen (ckB k f xs) = 4 + xs.length := by
  unfold ckLen
  rw [ckB_eq]
  simp only [List.drop_succ_cons, List.drop_zero]
  rw [List.take_append_of_le_length (by rw [nb_length]; omega), List.take_of_length_le (by rw [nb_length]; omega), be_nb]
  omega
theorem wrB_small (k f : Nat) (xs : List UInt8) (h : xs.length ≤ 65531) : wrB k f xs = ckB k f xs := by unfold wrB; rw [if_neg (by omega)]
theorem wrN_small (n : Nat) (h : n ≤ 65531) : wrN n = up (4 + n) := by unfold wrN; rw [if_neg (by omega)]
theorem wrN_big (n : Nat) (h : 65531 < n) : wrN n = 0 := by unfold wrN; rw [if_pos h]
theorem Rd.take {w : World} {A : Option Addr} {n m : Nat} {xs : List UInt8} (h : Rd w A n xs) (hm : m ≤ n) : Rd w A m (xs.take m) := by
  have hl := h.1
  refine ⟨by simp; omega, fun h0 => ?_⟩
  obtain ⟨b, off, e, hc⟩ := h.2 (by omega)
  refine ⟨b, off, e, fun j hj => ?_⟩
  rw [List.getElem_take]
  exact hc j _
/-- A chunk that is cut is none. -/
theorem ck_cut (k f : Nat) (xs : List UInt8) (m : Nat) (h : m < wrN xs.length) : ckOk ((wrB k f xs).take m) = false := by
  have hs : xs.length ≤ 65531 := by
    by_cases hb : xs.length ≤ 65531
    · exact hb
    · rw [wrN_big _ (by omega)] at h; omega
  rw [wrN_small _ hs] at h
  rw [wrB_small _ _ _ hs]
  have hl := ckB_length k f xs
  by_cases h4 : m < 4
  · exact ckOk_few (by simp; omega)
  · refine ckOk_short ?_
    rw [ckLen_take _ _ (by omega), ckLen_ckB _ _ _ hs]
    simp
    omega
end Go.Proofs.Ythndlhflkbidiaa
