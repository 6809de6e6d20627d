/- The sums of bytes, the program's and the document's: what is reckoned. -/
import Derived.Test.YthndlhflkbidiaaCopy
import Derived.Test.YthndlhflkbidiaaCrc
import Derived.Test.YthndlhflkbidiaaRowW
namespace Go.Proofs.Ythndlhflkbidiaa
open Go.RowKit

theorem xor_ones (x : Nat) (h : x < 4294967296) : 4294967295 ^^^ x = not32 x := by
  have e := congrArg BitVec.toNat (BitVec.xor_allOnes (x := BitVec.ofNat 32 x))
  rw [BitVec.toNat_xor, BitVec.toNat_not, BitVec.toNat_allOnes, BitVec.toNat_ofNat, Nat.mod_eq_of_lt (by omega)] at e
  rw [Nat.xor_comm]
  exact e
theorem not_u32 (x : Nat) (h : x < 4294967296) : bits .xor .u32 IntKind.u32.max (x : Int) = ((not32 x : Nat) : Int) := by
  have e : bits .xor .u32 IntKind.u32.max (x : Int) = bits .xor .u32 ((4294967295 : Nat) : Int) (x : Int) := rfl
  rw [e, u32_xor_nat 4294967295 x (by omega) h, xor_ones x h]
theorem not_u32' (x : Nat) (h : x < 4294967296) : bits .xor .u32 (x : Int) 4294967295 = ((not32 x : Nat) : Int) := by
  have e : bits .xor .u32 (x : Int) 4294967295 = bits .xor .u32 (x : Int) ((4294967295 : Nat) : Int) := rfl
  rw [e, u32_xor_nat x 4294967295 h (by omega), Nat.xor_comm, xor_ones x h]
theorem and_one_u32 (x : Nat) (h : x < 4294967296) : bits .and .u32 (x : Int) 1 = ((x % 2 : Nat) : Int) := by
  have e : bits .and .u32 (x : Int) 1 = bits .and .u32 (x : Int) ((1 : Nat) : Int) := rfl
  rw [e, u32_and_nat x 1 h (by omega), nat_mask1]
theorem odd_u32 {x : Nat} (h : x < 4294967296) {b : Bool} (e : (bits .and .u32 (x : Int) 1 == 1) = b) : decide (x % 2 = 1) = b := by
  rw [and_one_u32 x h] at e
  rw [← e, Bool.eq_iff_iff]
  simp
  omega
theorem step_odd {x : Nat} (h : x < 4294967296) (e : (bits .and .u32 (x : Int) 1 == 1) = true) : bits .xor .u32 ((x : Int) / 2) 2197175160 = ((cstep x : Nat) : Int) := by
  have h1 := odd_u32 h e
  simp at h1
  have e2 : bits .xor .u32 ((x : Int) / 2) 2197175160 = bits .xor .u32 ((x / 2 : Nat) : Int) ((2197175160 : Nat) : Int) := rfl
  rw [e2, u32_xor_nat _ _ (by omega) (by omega)]
  unfold cstep
  rw [if_pos h1]
theorem step_even {x : Nat} (h : x < 4294967296) (e : (bits .and .u32 (x : Int) 1 == 1) = false) : (x : Int) / 2 = ((cstep x : Nat) : Int) := by
  have h1 := odd_u32 h e
  simp at h1
  unfold cstep
  rw [if_neg (by omega)]
  rfl
theorem crcGo_take (s : Nat) (xs : List UInt8) (k : Nat) (h : k < xs.length) : crcGo s (xs.take (k + 1)) = it 8 (crcGo s (xs.take k) ^^^ gb xs k) := by
  rw [List.take_succ_eq_append_getElem h, crc_append, gb_get xs k h]
  rfl

theorem extend_any (A : Option Addr) (n c s : Nat) (xs : List UInt8) (w : World) (hx : Rd w A n xs) (hs : s < 4294967296) (hn : n ≤ 9223372036854775807) :
    Calls Try.prog 81 #[.int .u32 (s : Int), .slice A n c] w fun e w' => e = .returned (.int .u32 (crcE s xs : Int)) ∧ w = w' := by
  have HL := Lib.hid hx.len
  go_enter Try.func81, Try.ntmps81
  go_wp2
  go_loop [5, 12] (fun x i => ∃ k : Nat, k ≤ n ∧ i = .int .i64 k ∧ x = .int .u32 (crcGo (not32 s) (xs.take k) : Int)) (fun _ i => n - (intOf i).toNat)
  case atStart => exact ⟨0, by omega, rfl, by rw [not_u32 s hs]; rfl⟩
  case round =>
    obtain ⟨k, hk, rfl, rfl⟩ := hrel
    have hlt0 := crcGo_lt (xs.take k) (not32_lt s)
    by_cases hlt : k < n
    · obtain ⟨b, off, rfl, hc⟩ := hx.at_ hlt
      have hg := gb_lt xs k
      have hlt' : (k : Int) < n := by omega
      have HT := Lib.hid (crcGo_take (not32 s) xs k (by rw [HL.out]; exact hlt))
      obtain ⟨X, hX⟩ : ∃ X, X = crcGo (not32 s) (xs.take k) := ⟨_, rfl⟩
      rw [← hX] at hlt0
      have HX := Lib.hid hX
      rw [← hX]
      clear hX
      go_wp2
      go_loop [5, 20] (fun x i => ∃ j : Nat, j ≤ 8 ∧ i = .int .i64 j ∧ x = .int .u32 (it j (X ^^^ gb xs k) : Int)) (fun _ i => 8 - (intOf i).toNat)
      case atStart => exact ⟨0, by omega, rfl, by rw [u32_xor_nat _ _ (by omega) (by omega)]; rfl⟩
      case round =>
        obtain ⟨j, hj, rfl, rfl⟩ := hrel
        obtain ⟨Y, hY⟩ : ∃ Y, Y = it j (X ^^^ gb xs k) := ⟨_, rfl⟩
        have hYl : Y < 4294967296 := by rw [hY]; exact it_lt _ (Nat.xor_lt_two_pow (n := 32) (by omega) (by omega))
        have HY := Lib.hid (show it (j + 1) (X ^^^ gb xs k) = cstep Y by rw [it_succ, ← hY])
        rw [← hY]
        have HY2 := Lib.hid hY
        clear hY
        by_cases hj8 : j < 8
        · have hj8' : (j : Int) < 8 := by omega
          go_wp2
          · have ho : (bits BinOp.and IntKind.u32 (Y : Int) 1 == 1) = true := by assumption
            go_round
            case rel => exact ⟨j + 1, by omega, by go_num, by rw [step_odd hYl ho, HY.out]⟩
            case measure => simp [intOf]; omega
          · have ho : (bits BinOp.and IntKind.u32 (Y : Int) 1 == 1) = false := by assumption
            go_round
            case rel => exact ⟨j + 1, by omega, by go_num, by rw [step_even hYl ho, HY.out]⟩
            case measure => simp [intOf]; omega
        · obtain rfl : j = 8 := by omega
          go_wp2
          go_round
          case rel => exact ⟨k + 1, by omega, by go_num, by rw [HT.out, HY2.out, HX.out]⟩
          case measure => simp [intOf]; omega
    · obtain rfl : k = n := by omega
      have HK := Lib.hid (show crcE s xs = not32 (crcGo (not32 s) (xs.take k)) by rw [List.take_of_length_le (by rw [HL.out]; omega)]; rfl)
      go_wp2
      go_ret
      exact ⟨ret_int ((not_u32 _ hlt0).trans (by rw [HK.out])), rfl⟩

theorem sum_any (A : Option Addr) (n c : Nat) (xs : List UInt8) (w : World) (hx : Rd w A n xs) (hn : n ≤ 9223372036854775807) :
    Calls Try.prog 82 #[.slice A n c] w fun e w' => e = .returned (.int .u32 (crcS xs : Int)) ∧ w = w' := by
  go_enter Try.func82, Try.ntmps82
  go_wp2_with fail
  refine (extend_any A n c 0 xs _ hx (by omega) hn).mono ?_
  rintro e w' ⟨rfl, rfl⟩
  go_wp2
  go_ret
  exact ⟨rfl, rfl⟩

/-- The document's: bit by bit. -/
def bitOf (b k : Nat) : Nat := b / 2 ^ k % 2
theorem low_xor (a t j : Nat) (h : a < 2 ^ j) : a + 2 ^ j * t = a ^^^ (2 ^ j * t) := by
  apply Nat.eq_of_testBit_eq
  intro i
  rw [Nat.add_comm, Nat.testBit_two_pow_mul_add _ h, Nat.testBit_xor, Nat.testBit_two_pow_mul]
  by_cases hi : i < j
  · have h8 : ¬ j ≤ i := by omega
    simp [hi, h8]
  · rw [Nat.testBit_lt_two_pow (x := a) (Nat.lt_of_lt_of_le h (Nat.pow_le_pow_right (by omega) (by omega : j ≤ i)))]
    simp [hi]; omega
theorem it_bits (y b j : Nat) : it (j + 1) (y ^^^ b % 2 ^ (j + 1)) = cstep (it j (y ^^^ b % 2 ^ j) ^^^ bitOf b j) := by
  have e : b % 2 ^ (j + 1) = (b % 2 ^ j) ^^^ (2 ^ j * bitOf b j) := by
    rw [Nat.mod_pow_succ, low_xor _ _ _ (Nat.mod_lt _ (Nat.two_pow_pos j))]; rfl
  rw [it_succ, e, ← Nat.xor_assoc, it_xor j, it_shift]
theorem bitOf_lt (b j : Nat) : bitOf b j < 2 := Nat.mod_lt _ (by omega)
theorem cstep_bit {y t : Nat} (h : t < 2) : cstep (y ^^^ t) = if t = y % 2 then y / 2 else (y / 2) ^^^ 2197175160 := by
  unfold cstep
  rw [xor_mod2, xor_div2, show t / 2 = 0 by omega, Nat.xor_zero]
  rcases Nat.mod_two_eq_zero_or_one y with hy | hy
  · rcases (show t = 0 ∨ t = 1 by omega) with rfl | rfl <;> simp [hy]
  · rcases (show t = 0 ∨ t = 1 by omega) with rfl | rfl <;> simp [hy]

theorem bit_test {g j y : Nat} (hg : g < 256) (hy : y < 4294967296) : (bits .and .u32 ((g : Int) / 2 ^ j) 1 != bits .and .u32 (y : Int) 1) = !decide (bitOf g j = y % 2) := by
  have e : (g : Int) / 2 ^ j = ((g / 2 ^ j : Nat) : Int) := by simp
  have hl : g / 2 ^ j < 4294967296 := by have := Nat.div_le_self g (2 ^ j); omega
  rw [e, and_one_u32 _ hl, and_one_u32 y hy]
  unfold bitOf
  rw [Bool.eq_iff_iff]
  simp
  omega
theorem stepR_ne {g j y : Nat} (hg : g < 256) (hy : y < 4294967296) (e : (bits .and .u32 ((g : Int) / 2 ^ j) 1 != bits .and .u32 (y : Int) 1) = true) :
    bits .xor .u32 ((y : Int) / 2) 2197175160 = ((cstep (y ^^^ bitOf g j) : Nat) : Int) := by
  rw [bit_test hg hy] at e
  have e1 : ¬ bitOf g j = y % 2 := by simpa using e
  have e2 : bits .xor .u32 ((y : Int) / 2) 2197175160 = bits .xor .u32 ((y / 2 : Nat) : Int) ((2197175160 : Nat) : Int) := rfl
  rw [e2, u32_xor_nat _ _ (by omega) (by omega), cstep_bit (bitOf_lt _ _), if_neg e1]
theorem stepR_eq {g j y : Nat} (hg : g < 256) (hy : y < 4294967296) (e : (bits .and .u32 ((g : Int) / 2 ^ j) 1 != bits .and .u32 (y : Int) 1) = false) :
    (y : Int) / 2 = ((cstep (y ^^^ bitOf g j) : Nat) : Int) := by
  rw [bit_test hg hy] at e
  have e1 : bitOf g j = y % 2 := by simpa using e
  rw [cstep_bit (bitOf_lt _ _), if_pos e1]
  rfl

theorem extendR_any (A : Option Addr) (n c s : Nat) (xs : List UInt8) (w : World) (hx : Rd w A n xs) (hs : s < 4294967296) (hn : n ≤ 9223372036854775807) :
    Calls Try.prog 83 #[.int .u32 (s : Int), .slice A n c] w fun e w' => e = .returned (.int .u32 (crcE s xs : Int)) ∧ w = w' := by
  have HL := Lib.hid hx.len
  go_enter Try.func83, Try.ntmps83
  go_wp2
  go_loop [5, 6] (fun x i => ∃ k : Nat, k ≤ n ∧ i = .int .i64 k ∧ x = .int .u32 (crcGo (not32 s) (xs.take k) : Int)) (fun _ i => n - (intOf i).toNat)
  case atStart => exact ⟨0, by omega, rfl, by rw [not_u32' s hs]; rfl⟩
  case round =>
    obtain ⟨k, hk, rfl, rfl⟩ := hrel
    have hlt0 := crcGo_lt (xs.take k) (not32_lt s)
    by_cases hlt : k < n
    · obtain ⟨b, off, rfl, hc⟩ := hx.at_ hlt
      have hg := gb_lt xs k
      have hlt' : (k : Int) < n := by omega
      have HT := Lib.hid (crcGo_take (not32 s) xs k (by rw [HL.out]; exact hlt))
      obtain ⟨X, hX⟩ : ∃ X, X = crcGo (not32 s) (xs.take k) := ⟨_, rfl⟩
      rw [← hX] at hlt0
      have HX := Lib.hid hX
      rw [← hX]
      clear hX
      go_wp2
      go_loop [5, 7] (fun x i => ∃ j : Nat, j ≤ 8 ∧ i = .int .i64 j ∧ x = .int .u32 (it j (X ^^^ gb xs k % 2 ^ j) : Int)) (fun _ i => 8 - (intOf i).toNat)
      case atStart => exact ⟨0, by omega, rfl, by simp [it, Nat.mod_one]⟩
      case round =>
        obtain ⟨j, hj, rfl, rfl⟩ := hrel
        obtain ⟨Y, hY⟩ : ∃ Y, Y = it j (X ^^^ gb xs k % 2 ^ j) := ⟨_, rfl⟩
        have hYl : Y < 4294967296 := by rw [hY]; exact it_lt _ (Nat.xor_lt_two_pow (n := 32) (by omega) (by have := Nat.mod_le (gb xs k) (2 ^ j); omega))
        have HY := Lib.hid (show it (j + 1) (X ^^^ gb xs k % 2 ^ (j + 1)) = cstep (Y ^^^ bitOf (gb xs k) j) by rw [it_bits, ← hY])
        rw [← hY]
        have HY2 := Lib.hid hY
        clear hY
        by_cases hj8 : j < 8
        · have hj8' : (j : Int) < 8 := by omega
          go_wp2
          · have ho : (bits BinOp.and IntKind.u32 ((gb xs k : Int) / 2 ^ j) 1 != bits BinOp.and IntKind.u32 (Y : Int) 1) = true := by assumption
            go_round
            case rel => exact ⟨j + 1, by omega, by go_num, by rw [stepR_ne hg hYl ho, HY.out]⟩
            case measure => simp [intOf]; omega
          · have ho : (bits BinOp.and IntKind.u32 ((gb xs k : Int) / 2 ^ j) 1 != bits BinOp.and IntKind.u32 (Y : Int) 1) = false := by assumption
            go_round
            case rel => exact ⟨j + 1, by omega, by go_num, by rw [stepR_eq hg hYl ho, HY.out]⟩
            case measure => simp [intOf]; omega
        · obtain rfl : j = 8 := by omega
          have hm : gb xs k % 2 ^ 8 = gb xs k := Nat.mod_eq_of_lt hg
          have HM := Lib.hid hm
          clear hm
          go_wp2
          go_round
          case rel => exact ⟨k + 1, by omega, by go_num, by rw [HT.out, HY2.out, HX.out, HM.out]⟩
          case measure => simp [intOf]; omega
    · obtain rfl : k = n := by omega
      have HK := Lib.hid (show crcE s xs = not32 (crcGo (not32 s) (xs.take k)) by rw [List.take_of_length_le (by rw [HL.out]; omega)]; rfl)
      go_wp2
      go_ret
      exact ⟨ret_int ((not_u32' _ hlt0).trans (by rw [HK.out])), rfl⟩

theorem sumR_any (A : Option Addr) (n c : Nat) (xs : List UInt8) (w : World) (hx : Rd w A n xs) (hn : n ≤ 9223372036854775807) :
    Calls Try.prog 76 #[.slice A n c] w fun e w' => e = .returned (.int .u32 (crcS xs : Int)) ∧ w = w' := by
  go_enter Try.func76, Try.ntmps76
  go_wp2_with fail
  refine (extendR_any A n c 0 xs _ hx (by omega) hn).mono ?_
  rintro e w' ⟨rfl, rfl⟩
  go_wp2
  go_ret
  exact ⟨rfl, rfl⟩
end Go.Proofs.Ythndlhflkbidiaa
