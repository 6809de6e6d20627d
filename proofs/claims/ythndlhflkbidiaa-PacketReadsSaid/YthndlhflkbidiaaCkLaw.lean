/- The plain law of a chunk's bytes: what is read of them is what is written. -/
import Derived.Test.YthndlhflkbidiaaChkR
namespace Go.Proofs.Ythndlhflkbidiaa
open Go.RowKit

theorem nb_be (xs : List UInt8) : nb (be xs) xs.length = xs := by
  generalize hn : xs.length = n
  induction n generalizing xs with
  | zero => obtain rfl := List.eq_nil_of_length_eq_zero hn; simp [nb]
  | succ n ih =>
    rcases List.eq_nil_or_concat xs with rfl | ⟨ys, b, rfl⟩
    · simp at hn
    · rw [List.concat_eq_append] at hn ⊢
      have hb := b.toNat_lt
      have hl : ys.length = n := by simp at hn; exact hn
      rw [be_snoc, nb_succ, show (256 * be ys + b.toNat) / 256 = be ys by omega, show (256 * be ys + b.toNat) % 256 = b.toNat by omega, ih ys hl]
      simp
theorem take2 (b : List UInt8) (h : 2 ≤ b.length) : b.take 2 = [UInt8.ofNat (gb b 0), UInt8.ofNat (gb b 1)] := by
  match b, h with
  | x :: y :: t, _ => simp [gb]
/-- The bytes of the chunk that is read, ahead of its padding, are those with which the bytes begin. -/
theorem ck_raw (b : List UInt8) (h4 : 4 ≤ ckLen b) (h : ckLen b ≤ b.length) :
    ckRaw (gb b 0) (gb b 1) ((b.drop 4).take (ckLen b - 4)) = b.take (ckLen b) := by
  have e2 : ((b.drop 2).take 2).length = 2 := by simp; omega
  have e := nb_be ((b.drop 2).take 2)
  rw [e2] at e
  have hl : ((b.drop 4).take (ckLen b - 4)).length = ckLen b - 4 := by simp; omega
  unfold ckRaw
  rw [hl, show 4 + (ckLen b - 4) = ckLen b by omega, ← take2 b (by omega)]
  have e3 : nb (ckLen b) 2 = (b.drop 2).take 2 := e
  rw [e3]
  generalize ckLen b = L at *
  have a1 : b.take 2 ++ (b.drop 2).take 2 = b.take 4 := (List.take_add (i := 2) (j := 2)).symm
  have a2 : b.take 4 ++ (b.drop 4).take (L - 4) = b.take L := by
    have := (List.take_add (l := b) (i := 4) (j := L - 4)).symm
    rwa [show 4 + (L - 4) = L by omega] at this
  rw [a1, a2]
theorem allz_iff (xs : List UInt8) : allz xs = true ↔ xs = List.replicate xs.length 0 := by
  unfold allz
  rw [List.all_eq_true, List.eq_replicate_iff]
  simp
theorem ck_eq (b : List UInt8) (h4 : 4 ≤ ckLen b) (h : up (ckLen b) ≤ b.length) :
    eqB (ckB (gb b 0) (gb b 1) ((b.drop 4).take (ckLen b - 4))) (b.take (up (ckLen b))) = allz ((b.drop (ckLen b)).take (up (ckLen b) - ckLen b)) := by
  have hu := up_le (ckLen b)
  have hraw := ck_raw b h4 (by omega)
  rw [Bool.eq_iff_iff, allz_iff]
  unfold eqB ckB padded
  rw [decide_eq_true_iff, hraw]
  have hl : (b.take (ckLen b)).length = ckLen b := by simp; omega
  have hl2 : ((b.drop (ckLen b)).take (up (ckLen b) - ckLen b)).length = up (ckLen b) - ckLen b := by simp; omega
  rw [hl, hl2]
  generalize ckLen b = L at *
  have e : b.take (up L) = b.take L ++ (b.drop L).take (up L - L) := by
    have := List.take_add (l := b) (i := L) (j := up L - L)
    rwa [show L + (up L - L) = up L by omega] at this
  rw [e, List.append_cancel_left_eq]
  exact eq_comm
end Go.Proofs.Ythndlhflkbidiaa
