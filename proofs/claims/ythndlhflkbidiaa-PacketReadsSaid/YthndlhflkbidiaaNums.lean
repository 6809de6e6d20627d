/- Get and Put, the program's and the document's, over plain lists: what is reckoned. -/
import Derived.Test.YthndlhflkbidiaaCopy
import Derived.Laws.ShiftsVarLaws
namespace Go.Proofs.Ythndlhflkbidiaa
open Go.RowKit

/-- The number that bytes spell, the highest first. -/
def be (xs : List UInt8) : Nat := xs.foldl (fun x b => 256 * x + b.toNat) 0
theorem be_snoc (xs : List UInt8) (b : UInt8) : be (xs ++ [b]) = 256 * be xs + b.toNat := by simp [be]
theorem be_go (xs : List UInt8) : ∀ a : Nat, xs.foldl (fun x b => 256 * x + b.toNat) a = a * 256 ^ xs.length + be xs := by
  induction xs with
  | nil => intro a; simp [be]
  | cons b xs ih =>
    intro a
    unfold be at *
    simp only [List.foldl_cons, List.length_cons, Nat.pow_succ]
    rw [ih, ih (256 * 0 + b.toNat), Nat.add_mul]
    have e : 256 * a * 256 ^ xs.length = a * (256 ^ xs.length * 256) := by rw [Nat.mul_comm 256 a, Nat.mul_assoc, Nat.mul_comm 256]
    rw [e]; simp [Nat.add_assoc]
theorem be_cons (b : UInt8) (xs : List UInt8) : be (b :: xs) = b.toNat * 256 ^ xs.length + be xs := by
  have := be_go xs b.toNat
  simp [be] at this ⊢
  exact this
theorem be_lt (xs : List UInt8) : be xs < 256 ^ xs.length := by
  induction xs with
  | nil => simp [be]
  | cons b xs ih =>
    rw [be_cons, List.length_cons, Nat.pow_succ]
    have h := b.toNat_lt
    have h2 : b.toNat * 256 ^ xs.length ≤ 255 * 256 ^ xs.length := Nat.mul_le_mul_right _ (by omega)
    omega
theorem be_take (xs : List UInt8) (k : Nat) (h : k < xs.length) : be (xs.take (k + 1)) = 256 * be (xs.take k) + gb xs k := by
  rw [List.take_succ_eq_append_getElem h, be_snoc, gb_get xs k h]
theorem be_take_lt (xs : List UInt8) (k : Nat) (h : k < 8) : be (xs.take k) < 72057594037927936 := by
  have h1 := be_lt (xs.take k)
  have h2 : 256 ^ (xs.take k).length ≤ 256 ^ 7 := Nat.pow_le_pow_right (by omega) (by simp; omega)
  have h3 : (256 : Nat) ^ 7 = 72057594037927936 := by decide
  omega
theorem be_take_lt8 (xs : List UInt8) (k : Nat) (h : k ≤ 8) : be (xs.take k) < 18446744073709551616 := by
  have h1 := be_lt (xs.take k)
  have h2 : 256 ^ (xs.take k).length ≤ 256 ^ 8 := Nat.pow_le_pow_right (by omega) (by simp; omega)
  have h3 : (256 : Nat) ^ 8 = 18446744073709551616 := by decide
  omega

theorem gb_drop (xs : List UInt8) (a k : Nat) : gb (xs.drop a) k = gb xs (a + k) := by simp [gb, List.getD]
theorem be_slice (xs : List UInt8) (a k : Nat) (h : a + k < xs.length) : be ((xs.drop a).take (k + 1)) = 256 * be ((xs.drop a).take k) + gb xs (a + k) := by
  rw [be_take _ _ (by simp; omega), gb_drop]
theorem get_step (x g : Nat) (hx : x < 72057594037927936) (hg : g < 256) :
    bits .or .u64 ((x : Int) * 256) (g : Int) = ((256 * x + g : Nat) : Int) := by
  have e1 : (x : Int) * 256 = ((256 * x : Nat) : Int) := by omega
  rw [e1, u64_or_nat _ _ (by omega) (by omega), nat_join 8 (256 * x) g (by simp) (by omega)]

theorem get_yes (A : Option Addr) (n c : Nat) (xs : List UInt8) (at_ m : Nat) (w : World) (hx : Rd w A n xs) (hs : szB m = true) (h : at_ + m ≤ n) (hn : n ≤ 140737488351232) :
    Calls Try.prog 28 #[.slice A n c, .int .i64 (at_ : Int), .int .i64 (m : Int)] w fun e w' => e = .returned (.tuple #[.int .u64 (be ((xs.drop at_).take m) : Int), .int .i64 0]) ∧ w = w' := by
  have hm : m = 1 ∨ m = 2 ∨ m = 4 ∨ m = 8 := by simp [szB] at hs; omega
  have hm8 : m ≤ 8 := by omega
  have hw : wiB n (at_ : Int) (m : Int) = true := by simp [wiB]; omega
  have HS := Lib.hid hs
  have HW := Lib.hid hw
  clear hm hs hw
  go_enter Try.func28, Try.ntmps28
  go_wp2_with (first
    | (go_at_call 63; refine (sized_any _ _).mono ?_; rintro e w' ⟨rfl, rfl⟩; rw [HS.out])
    | (go_at_call 64; refine (within_any _ _ _ _ _ _ (by omega)).mono ?_; rintro e w' ⟨rfl, rfl⟩; rw [HW.out]))
  go_loop [6, 20] (fun x i => ∃ k : Nat, k ≤ m ∧ i = .int .i64 k ∧ x = .int .u64 (be ((xs.drop at_).take k) : Int)) (fun _ i => m - (intOf i).toNat)
  case atStart => exact ⟨0, by omega, rfl, by simp [be]⟩
  case round =>
    obtain ⟨k, hk, rfl, rfl⟩ := hrel
    by_cases hlt : k < m
    · obtain ⟨b, off, rfl, hc⟩ := hx.at_ (k := at_ + k) (by omega)
      have hlt' : (k : Int) < m := by omega
      have hg := gb_lt xs (at_ + k)
      have hb := be_take_lt (xs.drop at_) k (by omega)
      go_wp2
      go_round
      case rel => exact ⟨k + 1, by omega, by go_num, by rw [get_step _ _ hb hg, be_slice xs at_ k (by rw [hx.len]; omega)]⟩
      case measure => simp [intOf]; omega
    · obtain rfl : k = m := by omega
      go_wp2
      go_ret2
      exact ⟨rfl, rfl⟩

/-- The size is none, or the bytes are not there. -/
theorem get_no (A : Option Addr) (n c : Nat) (at_ m : Int) (w : World) (h : szB m = false ∨ wiB n at_ m = false) (hn : n ≤ 140737488351232) :
    Calls Try.prog 28 #[.slice A n c, .int .i64 at_, .int .i64 m] w fun e w' => e = .returned (.tuple #[.int .u64 0, .int .i64 1]) ∧ w = w' := by
  by_cases hs : szB m = true
  · have hw : wiB n at_ m = false := by rcases h with h | h <;> simp_all
    have HS := Lib.hid hs
    have HW := Lib.hid hw
    clear hs hw h
    go_enter Try.func28, Try.ntmps28
    go_wp2_with (first
      | (go_at_call 63; refine (sized_any _ _).mono ?_; rintro e w' ⟨rfl, rfl⟩; rw [HS.out])
      | (go_at_call 64; refine (within_any _ _ _ _ _ _ (by omega)).mono ?_; rintro e w' ⟨rfl, rfl⟩; rw [HW.out]))
    go_ret2
    exact ⟨rfl, rfl⟩
  · have HS := Lib.hid (show szB m = false by simpa using hs)
    clear hs h
    go_enter Try.func28, Try.ntmps28
    go_wp2_with (go_at_call 63; refine (sized_any _ _).mono ?_; rintro e w' ⟨rfl, rfl⟩; rw [HS.out])
    go_ret2
    exact ⟨rfl, rfl⟩

/-! ### Put -/
/-- The m lowest bytes of a number, the highest first. -/
def nb (x : Nat) (m : Nat) : List UInt8 := (List.range m).map fun i => UInt8.ofNat (x / 2 ^ (8 * (m - 1 - i)) % 256)

theorem nb_length (x m : Nat) : (nb x m).length = m := by simp [nb]
theorem nb_take (x m k : Nat) (h : k < m) : (nb x m).take (k + 1) = (nb x m).take k ++ [UInt8.ofNat ((x : Int) / 2 ^ (8 * (m - 1 - k)) % 256).toNat] := by
  rw [List.take_succ_eq_append_getElem (by rw [nb_length]; exact h)]
  congr 2
  have e : ((x : Int) / 2 ^ (8 * (m - 1 - k)) % 256).toNat = x / 2 ^ (8 * (m - 1 - k)) % 256 := by
    have e1 : ((x : Int) / 2 ^ (8 * (m - 1 - k)) % 256) = ((x / 2 ^ (8 * (m - 1 - k)) % 256 : Nat) : Int) := by simp
    rw [e1, Int.toNat_natCast]
  rw [e]
  simp [nb]

theorem put_yes (A : Option Addr) (n c : Nat) (xs : List UInt8) (x m : Nat) (w : World) (hx : Rd w A n xs) (hs : szB m = true) (hn : n ≤ 140737488351000) :
    Calls Try.prog 31 #[.slice A n c, .int .u64 (x : Int), .int .i64 (m : Int)] w (Fresh w (n + m) (xs ++ nb x m)) := by
  have hm : m = 1 ∨ m = 2 ∨ m = 4 ∨ m = 8 := by simp [szB] at hs; omega
  have hm8 : m ≤ 8 := by omega
  have HS := Lib.hid hs
  clear hm hs
  go_enter Try.func31, Try.ntmps31
  go_wp2_with (first
    | (go_at_call 63; refine (sized_any _ _).mono ?_; rintro e w' ⟨rfl, rfl⟩; rw [HS.out])
    | (go_at_call 66; refine (clone_any _ _ _ _ _ hx (by omega)).mono ?_; rintro e w1 ⟨A1, c1, rfl, hB1, hb1⟩))
  go_loopw [7, 16] (fun v i wr => ∃ k A2 c2, k ≤ m ∧ i = .int .i64 (k : Nat) ∧ v = .slice A2 (n + k) c2 ∧ Bo wr w.heap.size A2 (n + k) c2 (xs ++ (nb x m).take k) ∧ Below w.heap.size w wr) (fun _ i _ => m - (intOf i).toNat)
  case atStart => exact ⟨0, A1, c1, by omega, rfl, rfl, by simpa using hB1, hb1⟩
  case round =>
    obtain ⟨k, A2, c2, hk, rfl, rfl, hB, hb⟩ := hrel
    by_cases hlt : k < m
    · have hlt' : (k : Int) < m := by omega
      have h0 : 0 ≤ (x : Int) / 2 ^ (8 * (m - 1 - k)) % 256 := Int.emod_nonneg _ (by decide)
      have h1 : (x : Int) / 2 ^ (8 * (m - 1 - k)) % 256 < 256 := Int.emod_lt_of_pos _ (by decide)
      have hsz := hb.size
      go_wp2_with (at_builtin; refine wpList_bytes R22 _ rfl (.tmp 19) (.tmp 28) rfl w.heap.size rfl rfl (hB.alloc _) (rd_one _ _ h0 h1) (by omega) (by simp; omega) ?_; intro A3 c3 w3 hB3 hg3 hor3)
      have hb3 := below_grown (hB.alloc _) hg3 (by simp; omega)
      clear hg3 hor3
      have HB := Lib.hid hB3
      clear hB3
      go_wp2
      go_roundw
      case rel =>
        have hB3 := HB.out
        rw [List.append_assoc, ← nb_take x m k hlt] at hB3
        exact ⟨k + 1, A3, c3, by omega, by go_num, rfl, hB3, (hb.alloc hsz _).trans hb3⟩
      case measure => simp [intOf]; omega
    · obtain rfl : k = m := by omega
      go_wp2
      go_ret
      refine ⟨A2, c2, rfl, ?_, hb⟩
      have e : (nb x k).take k = nb x k := List.take_of_length_le (by rw [nb_length]; omega)
      rw [e] at hB
      exact hB

/-- No such size: a copy. -/
theorem put_no (A : Option Addr) (n c : Nat) (xs : List UInt8) (x m : Int) (w : World) (hx : Rd w A n xs) (hs : szB m = false) (hn : n ≤ 140737488351000) :
    Calls Try.prog 31 #[.slice A n c, .int .u64 x, .int .i64 m] w (Fresh w n xs) := by
  have HS := Lib.hid hs
  clear hs
  go_enter Try.func31, Try.ntmps31
  go_wp2_with (first
    | (go_at_call 63; refine (sized_any _ _).mono ?_; rintro e w' ⟨rfl, rfl⟩; rw [HS.out])
    | (go_at_call 66; refine (clone_any _ _ _ _ _ hx (by omega)).mono ?_; rintro e w1 ⟨A1, c1, rfl, hB1, hb1⟩))
  go_ret
  exact ⟨A1, c1, rfl, hB1, hb1⟩

theorem put_at (A : Option Addr) (n c : Nat) (xs : List UInt8) (xi mi : Int) (x m : Nat) (w : World) (ex : xi = x) (em : mi = m) (hx : Rd w A n xs) (hs : szB m = true) (hn : n ≤ 140737488351000) :
    Calls Try.prog 31 #[.slice A n c, .int .u64 xi, .int .i64 mi] w (Fresh w (n + m) (xs ++ nb x m)) := by
  subst ex em
  exact put_yes A n c xs x m w hx hs hn

/-- The document's. -/
theorem putR_yes (A : Option Addr) (n c : Nat) (xs : List UInt8) (x m : Nat) (w : World) (hx : Rd w A n xs) (hs : szB m = true) (hn : n ≤ 140737488351000) :
    Calls Try.prog 33 #[.slice A n c, .int .u64 (x : Int), .int .i64 (m : Int)] w (Fresh w (n + m) (xs ++ nb x m)) := by
  have hm : m = 1 ∨ m = 2 ∨ m = 4 ∨ m = 8 := by simp [szB] at hs; omega
  have hm8 : m ≤ 8 := by omega
  have hm1 : 1 ≤ m := by omega
  have HS := Lib.hid hs
  clear hm hs
  go_enter Try.func33, Try.ntmps33
  go_wp2_with (first
    | (go_at_call 65; refine (size_any _ _).mono ?_; rintro e w' ⟨rfl, rfl⟩; rw [HS.out])
    | (go_at_call 62; refine (copy_any _ _ _ _ _ hx (by omega)).mono ?_; rintro e w1 ⟨A1, c1, rfl, hB1, hb1⟩))
  go_loopw [7, 8] (fun v i wr => ∃ k A2 c2, k ≤ m ∧ i = .int .i64 ((m : Int) - 1 - (k : Nat)) ∧ v = .slice A2 (n + k) c2 ∧ Bo wr w.heap.size A2 (n + k) c2 (xs ++ (nb x m).take k) ∧ Below w.heap.size w wr) (fun _ i _ => (intOf i + 1).toNat)
  case atStart => exact ⟨0, A1, c1, by omega, by simp, rfl, by simpa using hB1, hb1⟩
  case round =>
    obtain ⟨k, A2, c2, hk, rfl, rfl, hB, hb⟩ := hrel
    by_cases hlt : k < m
    · obtain ⟨j, hj⟩ : ∃ j : Nat, (m : Int) - 1 - k = (j : Int) := ⟨m - 1 - k, by omega⟩
      have hjm : m - 1 - k = j := by omega
      have hj7 : j ≤ 7 := by omega
      rw [hj]
      have HJ := Lib.hid hj
      have HM := Lib.hid hjm
      clear hj hjm
      have h0 : 0 ≤ (x : Int) / 2 ^ (8 * j) % 256 := Int.emod_nonneg _ (by decide)
      have h1 : (x : Int) / 2 ^ (8 * j) % 256 < 256 := Int.emod_lt_of_pos _ (by decide)
      have hsz := hb.size
      go_wp2_with (at_builtin; refine wpList_bytes R22 _ rfl (.tmp 21) (.tmp 28) rfl w.heap.size rfl rfl (hB.alloc _) (rd_one _ _ h0 h1) (by omega) (by simp; omega) ?_; intro A3 c3 w3 hB3 hg3 hor3)
      have hb3 := below_grown (hB.alloc _) hg3 (by simp; omega)
      clear hg3 hor3
      have HB := Lib.hid hB3
      clear hB3
      go_wp2
      go_roundw
      case rel =>
        have hB3 := HB.out
        have ht := nb_take x m k hlt
        rw [HM.out] at ht
        rw [List.append_assoc, ← ht] at hB3
        have hj := HJ.out
        exact ⟨k + 1, A3, c3, by omega, by congr 1; omega, rfl, hB3, (hb.alloc hsz _).trans hb3⟩
      case measure => simp [intOf]
    · obtain rfl : k = m := by omega
      go_wp2
      go_ret
      refine ⟨A2, c2, rfl, ?_, hb⟩
      have e : (nb x k).take k = nb x k := List.take_of_length_le (by rw [nb_length]; omega)
      rw [e] at hB
      exact hB
theorem putR_no (A : Option Addr) (n c : Nat) (xs : List UInt8) (x m : Int) (w : World) (hx : Rd w A n xs) (hs : szB m = false) (hn : n ≤ 140737488351000) :
    Calls Try.prog 33 #[.slice A n c, .int .u64 x, .int .i64 m] w (Fresh w n xs) := by
  have HS := Lib.hid hs
  clear hs
  go_enter Try.func33, Try.ntmps33
  go_wp2_with (first
    | (go_at_call 65; refine (size_any _ _).mono ?_; rintro e w' ⟨rfl, rfl⟩; rw [HS.out])
    | (go_at_call 62; refine (copy_any _ _ _ _ _ hx (by omega)).mono ?_; rintro e w1 ⟨A1, c1, rfl, hB1, hb1⟩))
  go_ret
  exact ⟨A1, c1, rfl, hB1, hb1⟩
theorem putR_at (A : Option Addr) (n c : Nat) (xs : List UInt8) (xi mi : Int) (x m : Nat) (w : World) (ex : xi = x) (em : mi = m) (hx : Rd w A n xs) (hs : szB m = true) (hn : n ≤ 140737488351000) :
    Calls Try.prog 33 #[.slice A n c, .int .u64 xi, .int .i64 mi] w (Fresh w (n + m) (xs ++ nb x m)) := by
  subst ex em
  exact putR_yes A n c xs x m w hx hs hn

end Go.Proofs.Ythndlhflkbidiaa
