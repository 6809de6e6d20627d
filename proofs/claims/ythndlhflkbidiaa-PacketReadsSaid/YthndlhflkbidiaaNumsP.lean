/- Plain laws of the bytes of a number; the sizes 1, 2, 4, 8. -/
import Derived.Test.YthndlhflkbidiaaPads
namespace Go.Proofs.Ythndlhflkbidiaa
open Go.RowKit

theorem two256 (j : Nat) : 2 ^ (8 * j) = 256 ^ j := by rw [Nat.pow_mul]
theorem nb_get (x m i : Nat) (h : i < m) : (nb x m)[i]'(by rw [nb_length]; exact h) = UInt8.ofNat (x / 256 ^ (m - 1 - i) % 256) := by simp [nb, two256]
theorem nb_succ (x m : Nat) : nb x (m + 1) = nb (x / 256) m ++ [UInt8.ofNat (x % 256)] := by
  apply List.ext_getElem
  · simp [nb_length]
  · intro i h1 h2
    rw [nb_length] at h1
    rw [nb_get x (m + 1) i h1]
    by_cases hi : i < m
    · rw [List.getElem_append_left (by rw [nb_length]; exact hi), nb_get _ _ _ hi, Nat.div_div_eq_div_mul]
      have e : m + 1 - 1 - i = (m - 1 - i) + 1 := by omega
      rw [e, Nat.pow_succ, Nat.mul_comm 256]
    · obtain rfl : i = m := by omega
      rw [List.getElem_append_right (by rw [nb_length]; omega)]
      simp [nb_length]
theorem be_nb (m : Nat) : ∀ x : Nat, be (nb x m) = x % 256 ^ m := by
  induction m with
  | zero => intro x; simp [nb, be, Nat.mod_one]
  | succ m ih =>
    intro x
    rw [nb_succ, be_snoc, ih]
    have e : (UInt8.ofNat (x % 256)).toNat = x % 256 := by simp
    rw [e, Nat.pow_succ, Nat.mul_comm (256 ^ m) 256, Nat.mod_mul]
    omega
theorem nb_gb (x m j : Nat) (h : j < m) : gb (nb x m) (m - 1 - j) = x / 256 ^ j % 256 := by
  rw [gb_get _ _ (by rw [nb_length]; omega), nb_get _ _ _ (by omega)]
  have e : m - 1 - (m - 1 - j) = j := by omega
  rw [e]; simp

/-- The sizes. -/
def sz (i : Nat) : Nat := match i with | 0 => 1 | 1 => 2 | 2 => 4 | _ => 8
theorem sz_ok (i : Nat) : szB (sz i : Int) = true ∧ 1 ≤ sz i ∧ sz i ≤ 8 := by
  unfold sz
  split <;> simp [szB]
theorem sz_cells (w : World) (i : Nat) (h : i < 4) : (w.alloc (.cells #[.int .i64 1, .int .i64 2, .int .i64 4, .int .i64 8] 3)).cell? ⟨w.heap.size, i, none⟩ = some (.int .i64 (sz i : Int)) := by
  rw [World.cell?_alloc_new]
  match i, h with
  | 0, _ => rfl
  | 1, _ => rfl
  | 2, _ => rfl
  | 3, _ => rfl
end Go.Proofs.Ythndlhflkbidiaa
