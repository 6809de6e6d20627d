/- Cut, Get of the document, Pad, Kept. -/
import Derived.Test.YthndlhflkbidiaaNums
namespace Go.Proofs.Ythndlhflkbidiaa
open Go.RowKit

theorem cut_yes (A : Option Addr) (n c : Nat) (xs : List UInt8) (a m : Nat) (w : World) (hx : Rd w A n xs) (h : a + m ≤ n) (hnc : n ≤ c) (_hc : c ≤ 9223372036854775807) (hn : n ≤ 140737488351000) :
    Calls Try.prog 35 #[.slice A n c, .int .i64 (a : Int), .int .i64 (m : Int)] w fun e w' =>
      ∃ A2 c2, e = .returned (.tuple #[.slice A2 m c2, .bool true]) ∧ Bo w' w.heap.size A2 m c2 ((xs.drop a).take m) ∧ Below w.heap.size w w' := by
  have hw : wiB n (a : Int) (m : Int) = true := by simp [wiB]; omega
  have HW := Lib.hid hw
  clear hw
  go_enter Try.func35, Try.ntmps35
  go_wp2_with (first
    | (go_at_call 64; refine (within_any _ _ _ _ _ _ (by omega)).mono ?_; rintro e w' ⟨rfl, rfl⟩; rw [HW.out])
    | (go_at_call 66; refine (clone_any _ _ _ _ _ (hx.cut (k := a) (m := m) (by omega) hnc _ (by simp [*])) (by omega)).mono ?_; rintro e w1 ⟨A1, c1, rfl, hB1, hb1⟩))
  all_goals go_ret2
  all_goals exact ⟨A1, c1, rfl, hB1, hb1⟩

theorem cut_no (A : Option Addr) (n c : Nat) (a m : Int) (w : World) (h : wiB n a m = false) (hn : n ≤ 140737488351000) :
    Calls Try.prog 35 #[.slice A n c, .int .i64 a, .int .i64 m] w fun e w' => e = .returned (.tuple #[.slice none 0 0, .bool false]) ∧ w = w' := by
  have HW := Lib.hid h
  clear h
  go_enter Try.func35, Try.ntmps35
  go_wp2_with (go_at_call 64; refine (within_any _ _ _ _ _ _ (by omega)).mono ?_; rintro e w' ⟨rfl, rfl⟩; rw [HW.out])
  go_ret2
  exact ⟨rfl, rfl⟩

/-- The document's. -/
theorem cutR_yes (A : Option Addr) (n c : Nat) (xs : List UInt8) (a m : Nat) (w : World) (hx : Rd w A n xs) (h : a + m ≤ n) (hnc : n ≤ c) (_hc : c ≤ 9223372036854775807) (hn : n ≤ 140737488351000) :
    Calls Try.prog 36 #[.slice A n c, .int .i64 (a : Int), .int .i64 (m : Int)] w fun e w' =>
      ∃ A2 c2, e = .returned (.tuple #[.slice A2 m c2, .bool true]) ∧ Bo w' w.heap.size A2 m c2 ((xs.drop a).take m) ∧ Below w.heap.size w w' := by
  go_enter Try.func36, Try.ntmps36
  go_wp2_with (go_at_call 62; refine (copy_any _ _ _ _ _ (hx.cut (k := a) (m := m) (by omega) hnc _ (by simp [*])) (by omega)).mono ?_; rintro e w1 ⟨A1, c1, rfl, hB1, hb1⟩)
  all_goals go_ret2
  all_goals exact ⟨A1, c1, rfl, hB1, hb1⟩

theorem cutR_no (A : Option Addr) (n c : Nat) (a m : Int) (w : World) (h : wiB n a m = false) (hn : n ≤ 140737488351000) :
    Calls Try.prog 36 #[.slice A n c, .int .i64 a, .int .i64 m] w fun e w' => e = .returned (.tuple #[.slice none 0 0, .bool false]) ∧ w = w' := by
  have h' : a < 0 ∨ (0 ≤ a ∧ m < 0) ∨ (0 ≤ a ∧ 0 ≤ m ∧ (n : Int) < a) ∨ (0 ≤ a ∧ 0 ≤ m ∧ a ≤ n ∧ (n : Int) - a < m) := by simp [wiB] at h; omega
  clear h
  rcases h' with h | ⟨h, h1⟩ | ⟨h, h1, h2⟩ | ⟨h, h1, h2, h3⟩
  all_goals
    go_enter Try.func36, Try.ntmps36
    go_wp2_with fail
    go_ret2
    exact ⟨rfl, rfl⟩

/-- The document's Get. -/
theorem getR_yes (A : Option Addr) (n c : Nat) (xs : List UInt8) (at_ m : Nat) (w : World) (hx : Rd w A n xs) (hs : szB m = true) (h : at_ + m ≤ n) (hnc : n ≤ c) (hc : c ≤ 9223372036854775807) (hn : n ≤ 140737488351000) :
    Calls Try.prog 29 #[.slice A n c, .int .i64 (at_ : Int), .int .i64 (m : Int)] w fun e w' => e = .returned (.tuple #[.int .u64 (be ((xs.drop at_).take m) : Int), .int .i64 0]) ∧ Below w.heap.size w w' := by
  have hm : m = 1 ∨ m = 2 ∨ m = 4 ∨ m = 8 := by simp [szB] at hs; omega
  have hm8 : m ≤ 8 := by omega
  have HS := Lib.hid hs
  clear hm hs
  generalize hys : (xs.drop at_).take m = ys
  have HY := Lib.hid hys
  clear hys
  go_enter Try.func29, Try.ntmps29
  go_wp2_with (first
    | (go_at_call 65; refine (size_any _ _).mono ?_; rintro e w' ⟨rfl, rfl⟩; rw [HS.out])
    | (go_at_call 36; refine (cutR_yes _ _ _ _ _ _ _ hx h hnc hc hn).mono ?_; rintro e w1 ⟨A1, c1, rfl, hB1, hb1⟩))
  have hr := hB1.rd
  rw [HY.out] at hr
  clear hB1 HY
  go_loop [10, 11] (fun x i => ∃ k : Nat, k ≤ m ∧ i = .int .i64 k ∧ x = .int .u64 (be (ys.take k) : Int)) (fun _ i => m - (intOf i).toNat)
  case atStart => exact ⟨0, by omega, rfl, by simp [be]⟩
  case round =>
    obtain ⟨k, hk, rfl, rfl⟩ := hrel
    by_cases hlt : k < m
    · obtain ⟨b, off, rfl, hcc⟩ := hr.at_ hlt
      have hlt' : (k : Int) < m := by omega
      have hg := gb_lt ys k
      have hb := be_take_lt ys k (by omega)
      have hbt := Lib.hid (be_take ys k (by rw [hr.len]; exact hlt))
      go_wp2
      go_round
      case rel => exact ⟨k + 1, by omega, by go_num, by rw [hbt.out]; congr 1⟩
      case measure => simp [intOf]; omega
    · obtain rfl : k = m := by omega
      go_wp2
      go_ret2
      refine ⟨?_, hb1⟩
      rw [List.take_of_length_le (by rw [hr.len]; omega)]
      rfl

theorem getR_no (A : Option Addr) (n c : Nat) (xs : List UInt8) (at_ m : Int) (w : World) (hx : Rd w A n xs) (h : szB m = false ∨ wiB n at_ m = false) (hnc : n ≤ c) (hc : c ≤ 9223372036854775807) (hn : n ≤ 140737488351000) :
    Calls Try.prog 29 #[.slice A n c, .int .i64 at_, .int .i64 m] w fun e w' => e = .returned (.tuple #[.int .u64 0, .int .i64 1]) ∧ Below w.heap.size w w' := by
  by_cases hw : wiB n at_ m = true
  · have HS := Lib.hid (show szB m = false by rcases h with h | h <;> simp_all)
    have hw' := hw
    simp [wiB] at hw'
    obtain ⟨a, rfl⟩ := Int.eq_ofNat_of_zero_le hw'.1
    obtain ⟨k, rfl⟩ := Int.eq_ofNat_of_zero_le hw'.2.1
    have hak : a + k ≤ n := by omega
    clear hw hw' h
    go_enter Try.func29, Try.ntmps29
    go_wp2_with (first
      | (go_at_call 65; refine (size_any _ _).mono ?_; rintro e w' ⟨rfl, rfl⟩; rw [HS.out])
      | (go_at_call 36; refine (cutR_yes _ _ _ _ _ _ _ hx hak hnc hc hn).mono ?_; rintro e w1 ⟨A1, c1, rfl, hB1, hb1⟩))
    go_ret2
    exact ⟨rfl, hb1⟩
  · have hw' : wiB n at_ m = false := by simpa using hw
    clear hw h
    by_cases hs : szB m = true
    all_goals
      have HS := Lib.hid hs
      clear hs
      go_enter Try.func29, Try.ntmps29
      go_wp2_with (first
        | (go_at_call 65; refine (size_any _ _).mono ?_; rintro e w' ⟨rfl, rfl⟩; first | rw [HS.out] | rw [show szB m = false by simpa using HS.out])
        | (go_at_call 36; refine (cutR_no _ _ _ _ _ _ hw' hn).mono ?_; rintro e w' ⟨rfl, rfl⟩))
      go_ret2
      exact ⟨rfl, Below.refl _ _⟩
end Go.Proofs.Ythndlhflkbidiaa
