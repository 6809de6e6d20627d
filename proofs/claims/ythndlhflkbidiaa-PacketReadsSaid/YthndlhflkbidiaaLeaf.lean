/- The contracts of the functions that only reckon: sized, within, Size, Round, Alone and their kin. -/
import Derived.Test.YthndlhflkbidiaaMem
import Derived.Test.YthndlhflkbidiaaRows
import Derived.Deep.QuietTactic
import Derived.BigQuiet
import Derived.Outline
import Derived.WalkLawsBesides
import Derived.WalkSpells
import Derived.Lib.QuoteBits
namespace Go.Proofs.Ythndlhflkbidiaa
open Go.RowKit

theorem ret_bool {a b : Bool} (h : a = b) : Ending.returned (.bool a) = .returned (.bool b) := by rw [h]
theorem ret_int {k : IntKind} {a b : Int} (h : a = b) : Ending.returned (.int k a) = .returned (.int k b) := by rw [h]

def szB (n : Int) : Bool := decide (n = 1 ∨ n = 2 ∨ n = 4 ∨ n = 8)

theorem sized_any (n : Int) (w : World) : Calls Try.prog 63 #[.int .i64 n] w fun e w' => e = .returned (.bool (szB n)) ∧ w = w' := by
  go_enter Try.func63, Try.ntmps63
  go_wp2
  all_goals (go_ret; refine ⟨ret_bool ?_, rfl⟩; simp_all [szB])

theorem size_any (n : Int) (w : World) : Calls Try.prog 65 #[.int .i64 n] w fun e w' => e = .returned (.bool (szB n)) ∧ w = w' := by
  go_enter Try.func65, Try.ntmps65
  go_wp2
  all_goals (go_ret; refine ⟨ret_bool ?_, rfl⟩)
  all_goals (try subst_vars)
  all_goals first | (unfold szB; decide) | (rw [Bool.eq_iff_iff]; simp [szB]; omega)

def wiB (l : Nat) (at_ n : Int) : Bool := decide (0 ≤ at_ ∧ 0 ≤ n ∧ at_ ≤ l ∧ n ≤ l - at_)

theorem within_any (A : Option Addr) (l c : Nat) (at_ n : Int) (w : World) (hl : l ≤ 9223372036854775807) :
    Calls Try.prog 64 #[.slice A l c, .int .i64 at_, .int .i64 n] w fun e w' => e = .returned (.bool (wiB l at_ n)) ∧ w = w' := by
  go_enter Try.func64, Try.ntmps64
  go_wp2
  all_goals (go_ret; refine ⟨ret_bool ?_, rfl⟩; rw [Bool.eq_iff_iff]; simp [wiB]; omega)

theorem andNot_three (i : Nat) (h : i < 9223372036854775807) : bits .andNot .i64 (i : Int) 3 = ((i / 4 * 4 : Nat) : Int) := by
  show IntKind.i64.wrap ((BitVec.ofInt 64 (i : Int) &&& ~~~BitVec.ofInt 64 ((3 : Nat) : Int)).toNat : Int) = _
  rw [BitVec.toNat_and, BitVec.toNat_not, ofInt_u64 i (by omega), ofInt_u64 3 (by omega)]
  have e : 2 ^ 64 - 1 - 3 = 18446744073709551612 := by decide
  rw [e, nat_hi64_2, Nat.mod_eq_of_lt (by omega)]
  exact Lib.wrap_i64_small _ (by omega)

def up (n : Nat) : Nat := (n + 3) / 4 * 4
theorem up_le (n : Nat) : n ≤ up n ∧ up n ≤ n + 3 ∧ up n % 4 = 0 := by unfold up; omega

theorem round_any (n : Nat) (w : World) (h1 : n ≤ 4611686018427387904) :
    Calls Try.prog 39 #[.int .i64 (n : Int)] w fun e w' => e = .returned (.int .i64 (up n : Int)) ∧ w = w' := by
  go_enter Try.func39, Try.ntmps39
  go_wp2
  go_ret
  refine ⟨ret_int ?_, rfl⟩
  have := andNot_three (n + 3) (by omega)
  simpa [up] using this

theorem round_out (n : Int) (w : World) (h1 : n < 0 ∨ 4611686018427387904 < n) :
    Calls Try.prog 39 #[.int .i64 n] w fun e w' => e = .returned (.int .i64 0) ∧ w = w' := by
  rcases h1 with h1 | h1
  · go_enter Try.func39, Try.ntmps39
    go_wp2
    go_ret
    exact ⟨rfl, rfl⟩
  · have h0 : 0 ≤ n := by omega
    go_enter Try.func39, Try.ntmps39
    go_wp2
    go_ret
    exact ⟨rfl, rfl⟩

theorem whole_any (A : Option Addr) (n c : Nat) (w : World) (_hn : n ≤ c) (_hc : c ≤ 9223372036854775807) :
    Calls Try.prog 67 #[.slice A n c] w fun e w' => e = .returned (.slice A c c) ∧ w = w' := by
  go_enter Try.func67, Try.ntmps67
  go_wp2
  go_ret
  exact ⟨rfl, rfl⟩

def alB (k : Int) : Bool := decide (k = 1 ∨ k = 2 ∨ k = 14)
theorem alone_any (k : Int) (w : World) : Calls Try.prog 44 #[.int .u8 k] w fun e w' => e = .returned (.bool (alB k)) ∧ w = w' := by
  go_enter Try.func44, Try.ntmps44
  go_wp2
  all_goals (go_ret; refine ⟨ret_bool ?_, rfl⟩)
  all_goals (try subst_vars)
  all_goals first | (unfold alB; decide) | (rw [Bool.eq_iff_iff]; simp [alB]; omega)
theorem aloneR_any (k : Int) (w : World) : Calls Try.prog 45 #[.int .u8 k] w fun e w' => e = .returned (.bool (alB k)) ∧ w = w' := by
  go_enter Try.func45, Try.ntmps45
  go_wp2
  all_goals (go_ret; refine ⟨ret_bool ?_, rfl⟩)
  all_goals (try subst_vars)
  all_goals first | (unfold alB; decide) | (rw [Bool.eq_iff_iff]; simp [alB]; omega)

theorem roundR_any (n : Nat) (w : World) (h1 : n ≤ 4611686018427387904) :
    Calls Try.prog 68 #[.int .i64 (n : Int)] w fun e w' => e = .returned (.int .i64 (up n : Int)) ∧ w = w' := by
  go_enter Try.func68, Try.ntmps68
  go_wp2
  go_loop [0] (fun v => ∃ k : Nat, n ≤ k ∧ k ≤ up n ∧ v = .int .i64 k) (fun v => up n - (intOf v).toNat)
  case atStart => exact ⟨n, Nat.le_refl _, (up_le n).1, rfl⟩
  case round =>
    obtain ⟨k, hk, hku, rfl⟩ := hrel
    have hu := up_le n
    go_wp2
    · have hm : ((k : Int) % 4 != 0) = true := by assumption
      have hm' : k % 4 ≠ 0 := by simp at hm; omega
      go_round
      case rel => exact ⟨k + 1, by omega, by unfold up at *; omega, by go_num⟩
      case measure => simp [intOf]; unfold up at *; omega
    · have hm : ((k : Int) % 4 != 0) = false := by assumption
      have hm' : k % 4 = 0 := by simp at hm; omega
      go_ret
      exact ⟨ret_int (by unfold up at *; omega), rfl⟩
end Go.Proofs.Ythndlhflkbidiaa
