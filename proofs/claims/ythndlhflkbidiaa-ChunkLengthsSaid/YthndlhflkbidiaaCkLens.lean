/- A head of a chunk with noughts behind it. -/
import Derived.Test.YthndlhflkbidiaaCkBack
namespace Go.Proofs.Ythndlhflkbidiaa
open Go.RowKit

def lenB (k L N : Nat) : List UInt8 := [UInt8.ofNat k, UInt8.ofNat 0, UInt8.ofNat (L / 256), UInt8.ofNat (L % 256)] ++ List.replicate N 0
theorem lenB_length (k L N : Nat) : (lenB k L N).length = 4 + N := by simp [lenB]; omega
theorem lens_ckLen (k L N : Nat) (h : L < 65536) : ckLen (lenB k L N) = L := by
  have e : ((lenB k L N).drop 2).take 2 = [UInt8.ofNat (L / 256), UInt8.ofNat (L % 256)] := rfl
  have e1 : (UInt8.ofNat (L / 256)).toNat = L / 256 := by simp; omega
  have e2 : (UInt8.ofNat (L % 256)).toNat = L % 256 := by simp
  unfold ckLen
  rw [e]
  unfold be
  simp only [List.foldl_cons, List.foldl_nil, e1, e2]
  omega
theorem lens_ok (k L N : Nat) (h : L < 65536) : ckOk (lenB k L N) = (decide (4 ≤ L) && decide (up L ≤ 4 + N)) := by
  unfold ckOk
  rw [lens_ckLen k L N h, lenB_length]
  by_cases h4 : 4 ≤ L
  · have e : (lenB k L N).drop L = (List.replicate N 0).drop (L - 4) := by
      unfold lenB
      rw [List.drop_append, List.drop_of_length_le (by simpa using h4)]
      rfl
    rw [e]
    simp [allz, h4]
  · simp [h4]
theorem lens_gb0 (k L N : Nat) (h : k < 256) : gb (lenB k L N) 0 = k := by
  simp [lenB, gb, Nat.mod_eq_of_lt h]
theorem rd_four (w : World) (k L : Nat) (hk : k < 256) (hL : L < 65536) : Bo (w.alloc (.cells #[.int .u8 (k : Int), .int .u8 0, .int .u8 ((L : Int) / 256), .int .u8 ((L : Int) % 256)] 5)) w.heap.size (some ⟨w.heap.size, 0, none⟩) 4 4
    [UInt8.ofNat k, UInt8.ofNat 0, UInt8.ofNat (L / 256), UInt8.ofNat (L % 256)] := by
  have h := Blk.new w [UInt8.ofNat k, UInt8.ofNat 0, UInt8.ofNat (L / 256), UInt8.ofNat (L % 256)]
  have e1 : L / 256 % 256 = L / 256 := by omega
  have e : (bs [UInt8.ofNat k, UInt8.ofNat 0, UInt8.ofNat (L / 256), UInt8.ofNat (L % 256)]).toArray = #[.int .u8 (k : Int), .int .u8 0, .int .u8 ((L : Int) / 256), .int .u8 ((L : Int) % 256)] := by
    simp [bs, Nat.mod_eq_of_lt hk]
    omega
  rw [e] at h
  exact Blk.bo (xs := [UInt8.ofNat k, UInt8.ofNat 0, UInt8.ofNat (L / 256), UInt8.ofNat (L % 256)]) (ys := []) (by simpa using h) (Nat.le_refl _) rfl rfl (by unfold maxLen; omega)
end Go.Proofs.Ythndlhflkbidiaa
