/- A chunk that is written is read, whatever stands behind it; what is read is what is written of it. -/
import Derived.Test.YthndlhflkbidiaaCkSet
namespace Go.Proofs.Ythndlhflkbidiaa
open Go.RowKit

theorem ckB_app_ok (k f : Nat) (xs more : List UInt8) (h : xs.length ≤ 65531) : ckOk (ckB k f xs ++ more) = true := by
  have hu := up_le (4 + xs.length)
  have hl := ckB_length k f xs
  unfold ckOk
  rw [ckLen_app _ _ (by omega), ckLen_ckB _ _ _ h, List.drop_append_of_le_length (by omega), ckB_pad]
  rw [List.take_append_of_le_length (by simp)]
  simp only [List.length_append, hl]
  rw [decide_eq_true (by omega : 4 ≤ up (4 + xs.length) + more.length), decide_eq_true (by omega : 4 ≤ 4 + xs.length), decide_eq_true (by omega : up (4 + xs.length) ≤ up (4 + xs.length) + more.length)]
  simp [allz]
theorem ckB_app_len (k f : Nat) (xs more : List UInt8) (h : xs.length ≤ 65531) : ckLen (ckB k f xs ++ more) = 4 + xs.length := by
  have hu := up_le (4 + xs.length)
  have hl := ckB_length k f xs
  rw [ckLen_app _ _ (by omega), ckLen_ckB _ _ _ h]
theorem ckB_gb0 (k f : Nat) (xs more : List UInt8) (hk : k < 256) : gb (ckB k f xs ++ more) 0 = k := by
  rw [ckB_eq]
  simp [gb, Nat.mod_eq_of_lt hk]
theorem ckB_gb1 (k f : Nat) (xs more : List UInt8) (hf : f < 256) : gb (ckB k f xs ++ more) 1 = f := by
  rw [ckB_eq]
  simp [gb, Nat.mod_eq_of_lt hf]
theorem ckB_body (k f : Nat) (xs more : List UInt8) : ((ckB k f xs ++ more).drop 4).take (4 + xs.length - 4) = xs := by
  rw [show 4 + xs.length - 4 = xs.length by omega]
  have e : ckB k f xs ++ more = (UInt8.ofNat k :: UInt8.ofNat f :: nb (4 + xs.length) 2) ++ (xs ++ (List.replicate (up (4 + xs.length) - (4 + xs.length)) 0 ++ more)) := by
    rw [ckB_eq]; simp
  have hl : (UInt8.ofNat k :: UInt8.ofNat f :: nb (4 + xs.length) 2).length = 4 := by simp [nb_length]
  rw [e, List.drop_append, hl, List.drop_of_length_le (by omega)]
  simp
theorem ckB_app_drop (k f : Nat) (xs more : List UInt8) : (ckB k f xs ++ more).drop (up (4 + xs.length)) = more := by
  rw [← ckB_length k f xs, List.drop_left]
/-- Bytes of which a chunk is read begin with those that are written of it. -/
theorem ck_written (b : List UInt8) (h : ckOk b = true) : wrB (gb b 0) (gb b 1) ((b.drop 4).take (ckLen b - 4)) = b.take (up (ckLen b)) ∧ 4 ≤ ckLen b ∧ up (ckLen b) ≤ b.length := by
  unfold ckOk at h
  simp only [Bool.and_eq_true, decide_eq_true_eq] at h
  obtain ⟨⟨⟨h1, h2⟩, h3⟩, h4⟩ := h
  have hL := ckLen_lt b
  have e := ck_eq b h2 h3
  rw [h4] at e
  rw [wrB_small _ _ _ (by simp; omega)]
  exact ⟨by simpa [eqB] using e, h2, h3⟩
theorem Bo.wrote_place {w : World} {base : Nat} {A : Option Addr} {n c : Nat} {xs : List UInt8} (h : Bo w base A n c xs) {g : Nat} (e : wrote A c = some g) : base ≤ g ∧ g < w.heap.size := by
  unfold wrote at e
  by_cases hc : c = 0
  · rw [if_pos hc] at e; cases e
  · rw [if_neg hc] at e
    obtain ⟨g', ys, hA, hb, _, hB⟩ := h.blk (by omega)
    rw [hA] at e
    simp at e
    subst e
    exact ⟨hb, hB.lt⟩
/-- What the call hands back where it reads a chunk. -/
def RdIs (w : World) (k f n : Nat) (xs : List UInt8) (e : Ending) (w' : World) : Prop :=
  ∃ A c, e = .returned (.tuple #[.agg #[.int .u8 (k : Int), .int .u8 (f : Int), .slice A n c], .int .i64 (up (4 + n) : Int), .int .i64 0]) ∧ Bo w' w.heap.size A n c xs ∧ Below w.heap.size w w'
theorem read_back (A : Option Addr) (N C : Nat) (k f n : Nat) (xs more : List UInt8) (w : World) (hk : k < 256) (hf : f < 256) (hn : xs.length = n) (h : n ≤ 65531) (hx : Rd w A N (ckB k f xs ++ more)) (hNC : N ≤ C) (hC : C ≤ 9223372036854775807) (hN : N ≤ 1000000) :
    Calls Try.prog 51 #[.slice A N C] w (RdIs w k f n xs) := by
  subst hn
  refine (read_any A N C _ w hx hNC hC hN).mono fun e w' ho => ?_
  have e2 := ckB_app_len k f xs more h
  have e3 := ckB_body k f xs more
  unfold RdOut at ho
  rw [if_pos (ckB_app_ok k f xs more h)] at ho
  unfold RdGood at ho
  rw [ckB_gb0 _ _ _ _ hk, ckB_gb1 _ _ _ _ hf, e2, e3, show 4 + xs.length - 4 = xs.length by omega] at ho
  exact ho
end Go.Proofs.Ythndlhflkbidiaa
