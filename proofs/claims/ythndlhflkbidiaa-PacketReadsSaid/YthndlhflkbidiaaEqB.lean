/- EqBytes: are two rows of bytes alike. -/
import Derived.Test.YthndlhflkbidiaaLeaf
import Derived.Laws.BitsAllLaws
namespace Go.Proofs.Ythndlhflkbidiaa
open Go.RowKit

def eqB (xs ys : List UInt8) : Bool := decide (xs = ys)

theorem eq_len (A B : Option Addr) (n m c d : Nat) (w : World) (hne : ((n : Int) != (m : Int)) = true) :
    Calls Try.prog 32 #[.slice A n c, .slice B m d] w fun e w' => e = .returned (.bool false) ∧ w = w' := by
  go_enter Try.func32, Try.ntmps32
  go_wp2
  go_ret
  exact ⟨rfl, rfl⟩

def EqRel (w : World) (n : Nat) (xs ys : List UInt8) (un i : Value) (wr : World) : Prop :=
  ∃ k u : Nat, k ≤ n ∧ i = .int .i64 k ∧ un = .int .u8 u ∧ u < 256 ∧ (u = 0 ↔ xs.take k = ys.take k) ∧ ∃ j, wr = w.drewN j

theorem xor_zero' {a b : Nat} : a ^^^ b = 0 ↔ a = b := by
  constructor
  · intro h
    have e : a ^^^ b ^^^ b = 0 ^^^ b := by rw [h]
    rwa [Nat.xor_assoc, Nat.xor_self, Nat.xor_zero, Nat.zero_xor] at e
  · rintro rfl; exact Nat.xor_self _
theorem gb_inj {xs ys : List UInt8} {k : Nat} (h : UInt8.ofNat (gb xs k) = UInt8.ofNat (gb ys k)) : gb xs k = gb ys k := by
  have := congrArg UInt8.toNat h
  simpa [Nat.mod_eq_of_lt (gb_lt xs k), Nat.mod_eq_of_lt (gb_lt ys k)] using this

theorem eq_step {xs ys : List UInt8} {k u : Nat} (hx : k < xs.length) (hy : k < ys.length) (hu : u < 256) (h : u = 0 ↔ xs.take k = ys.take k) :
    bits .or .u8 (u : Int) (bits .xor .u8 (gb xs k : Int) (gb ys k : Int)) = ((u ||| (gb xs k ^^^ gb ys k) : Nat) : Int) ∧
    (u ||| (gb xs k ^^^ gb ys k)) < 256 ∧ ((u ||| (gb xs k ^^^ gb ys k)) = 0 ↔ xs.take (k + 1) = ys.take (k + 1)) := by
  have h1 := gb_lt xs k
  have h2 := gb_lt ys k
  have h3 : (gb xs k ^^^ gb ys k) < 2 ^ 8 := Nat.xor_lt_two_pow (by omega) (by omega)
  refine ⟨by rw [u8_xor_nat _ _ (by omega) (by omega), u8_or_nat _ _ hu (by omega)], Nat.or_lt_two_pow (n := 8) (by omega) h3, ?_⟩
  rw [take_succ' xs k hx, take_succ' ys k hy]
  rw [Nat.or_eq_zero_iff, xor_zero', h]
  constructor
  · rintro ⟨e1, e2⟩
    rw [e1, e2]
  · intro e
    have hl : (xs.take k).length = (ys.take k).length := by simp; omega
    obtain ⟨e1, e2⟩ := List.append_inj e hl
    exact ⟨e1, gb_inj (by injection e2)⟩

theorem eq_go (A B : Option Addr) (n c d : Nat) (xs ys : List UInt8) (w : World) (hx : Rd w A n xs) (hy : Rd w B n ys) (hn : n ≤ 9223372036854775807) :
    Calls Try.prog 32 #[.slice A n c, .slice B n d] w fun e w' => e = .returned (.bool (eqB xs ys)) ∧ ∃ k, w' = w.drewN k := by
  go_enter Try.func32, Try.ntmps32
  go_wp2
  go_loopw [6, 7] (fun un i wr => EqRel w n xs ys un i wr) (fun _ i _ => n - (intOf i).toNat)
  case atStart => exact ⟨0, 0, by omega, rfl, rfl, by omega, by simp, 0, rfl⟩
  case round =>
    obtain ⟨k, u, hk, rfl, rfl, hu, hz, j, rfl⟩ := hrel
    by_cases hlt : k < n
    · obtain ⟨b, off, rfl, hc⟩ := hx.at_ hlt
      obtain ⟨b', off', rfl, hc'⟩ := hy.at_ hlt
      have hst := Lib.hid (eq_step (by rw [hx.len]; exact hlt) (by rw [hy.len]; exact hlt) hu hz)
      have hlt' : (k : Int) < n := by omega
      clear hz
      go_wp2
      go_quiet (fail)
      go_wp2
      go_roundw
      case rel => exact ⟨k + 1, _, by omega, by go_num, by rw [hst.out.1], hst.out.2.1, hst.out.2.2, _, rfl⟩
      case measure => simp [intOf]; omega
    · obtain rfl : k = n := by omega
      have HZ := Lib.hid hz
      clear hz
      go_wp2
      go_ret
      refine ⟨ret_bool ?_, _, rfl⟩
      have hz := HZ.out
      rw [List.take_of_length_le (by rw [hx.len]; omega), List.take_of_length_le (by rw [hy.len]; omega)] at hz
      rw [Bool.eq_iff_iff]
      simp [eqB, ← hz]
end Go.Proofs.Ythndlhflkbidiaa
