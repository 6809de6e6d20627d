/- A chunk: Read of the program for any bytes; Same; large; works. -/
import Derived.Test.YthndlhflkbidiaaChkR2
import Derived.Test.YthndlhflkbidiaaChkR3
import Derived.Test.YthndlhflkbidiaaCkLaw
namespace Go.Proofs.Ythndlhflkbidiaa
open Go.RowKit

theorem ckOk_few {b : List UInt8} (h : b.length < 4) : ckOk b = false := by unfold ckOk; simp; omega
theorem ckOk_len {b : List UInt8} (h : ckLen b < 4 ∨ b.length < ckLen b) : ckOk b = false := by
  have := up_le (ckLen b)
  unfold ckOk
  simp
  omega
theorem ckOk_short {b : List UInt8} (h : b.length < up (ckLen b)) : ckOk b = false := by
  unfold ckOk
  simp
  omega
theorem RdOut.bad {w : World} {b : List UInt8} (h : ckOk b = false) {e : Ending} {w' : World} (hb : RdBad w e w') : RdOut w b e w' := by unfold RdOut; rw [h]; exact hb

theorem read_any (A : Option Addr) (N C : Nat) (b : List UInt8) (w : World) (hx : Rd w A N b) (hNC : N ≤ C) (hC : C ≤ 9223372036854775807) (hN : N ≤ 1000000) :
    Calls Try.prog 51 #[.slice A N C] w (RdOut w b) := by
  have hl := hx.len
  by_cases h4 : N < 4
  · exact (read_few A N C w hN h4).mono fun e w' h => RdOut.bad (ckOk_few (by omega)) h
  by_cases hb : ckLen b < 4 ∨ N < ckLen b
  · exact (read_body A N C b w hx hNC hC hN (by omega) hb).mono fun e w' h => RdOut.bad (ckOk_len (by omega)) h
  by_cases hs : N < up (ckLen b)
  · exact (read_short A N C b w hx hNC hC hN (by omega) (by omega) hs).mono fun e w' h => RdOut.bad (ckOk_short (by omega)) h
  exact read_full A N C b w hx hNC hC hN (by omega) (by omega)

/-- Same: of two chunks. -/
theorem same_any (k1 f1 k2 f2 : Int) (A1 A2 : Option Addr) (n1 n2 c1 c2 : Nat) (xs1 xs2 : List UInt8) (w : World) (h1 : Rd w A1 n1 xs1) (h2 : Rd w A2 n2 xs2) (hn : n1 ≤ 9223372036854775807) :
    Calls Try.prog 53 #[.agg #[.int .u8 k1, .int .u8 f1, .slice A1 n1 c1], .agg #[.int .u8 k2, .int .u8 f2, .slice A2 n2 c2]] w fun e w' =>
      e = .returned (.bool (k1 == k2 && f1 == f2 && eqB xs1 xs2)) ∧ Below w.heap.size w w' := by
  have hb : ∀ o1 o2 k, Below w.heap.size w (((w.alloc o1).alloc o2).drewN k) := fun o1 o2 k => below_drewN (((Below.refl _ _).alloc (Nat.le_refl _) _).alloc (by simp) _) k
  have HB := Lib.hid hb
  clear hb
  by_cases hk : k1 = k2
  · subst hk
    by_cases hf : f1 = f2
    · subst hf
      go_enter Try.func53, Try.ntmps53
      go_wp2_with (go_at_call 32; refine (eq_any _ _ _ _ _ _ _ _ _ ((h1.alloc _).alloc _) ((h2.alloc _).alloc _) hn).mono ?_; rintro e w' ⟨rfl, k, rfl⟩)
      go_ret
      exact ⟨by simp, HB.out _ _ _⟩
    · have hf' : (f1 == f2) = false := by simp [hf]
      go_enter Try.func53, Try.ntmps53
      go_wp2
      go_ret
      exact ⟨by simp [hf'], HB.out _ _ 0⟩
  · have hk' : (k1 == k2) = false := by simp [hk]
    go_enter Try.func53, Try.ntmps53
    go_wp2
    go_ret
    exact ⟨by simp [hk'], HB.out _ _ 0⟩

theorem large_any (k f : Int) (A : Option Addr) (n c : Nat) (w : World) (hn : (n : Int) ≤ 9223372036854775807) :
    Calls Try.prog 47 #[.agg #[.int .u8 k, .int .u8 f, .slice A n c]] w fun e w' => e = .returned (.bool (decide (131072 < n))) ∧ Below w.heap.size w w' := by
  by_cases h : 131072 < n
  all_goals
    go_enter Try.func47, Try.ntmps47
    go_wp2
    go_ret
    exact ⟨ret_bool (by simp [h]; try omega), (Below.refl _ _).alloc (Nat.le_refl _) _⟩

/-- Write's bytes of any chunk: none, if it is too long. -/
def wrN (n : Nat) : Nat := if 65531 < n then 0 else up (4 + n)
def wrB (k f : Nat) (xs : List UInt8) : List UInt8 := if 65531 < xs.length then [] else ckB k f xs
theorem wrN_le (n : Nat) : wrN n ≤ n + 7 := by have := up_le (4 + n); unfold wrN; split <;> omega
theorem wrB_length (k f : Nat) (xs : List UInt8) : (wrB k f xs).length = wrN xs.length := by
  unfold wrB wrN
  split
  · rfl
  · exact ckB_length k f xs
theorem ckw_all (k f : Nat) (A : Option Addr) (n c : Nat) (xs : List UInt8) (w : World) (hk : k < 256) (hf : f < 256) (hx : Rd w A n xs) :
    Calls Try.prog 49 #[.agg #[.int .u8 (k : Int), .int .u8 (f : Int), .slice A n c]] w (Fresh w (wrN n) (wrB k f xs)) := by
  have hl := hx.len
  by_cases h : 65531 < n
  · refine (ckw_big k f A n c w (by omega)).mono fun e w' ⟨he, hb⟩ => ?_
    unfold wrN wrB
    rw [if_pos h, if_pos (by omega)]
    exact ⟨none, 0, he, Bo.nil _ _ _, hb⟩
  · unfold wrN wrB
    rw [if_neg h, if_neg (by omega)]
    exact ckw_any k f A n c xs w hk hf hx (by omega)
theorem ckwR_all (k f : Nat) (A : Option Addr) (n c : Nat) (xs : List UInt8) (w : World) (hk : k < 256) (hf : f < 256) (hx : Rd w A n xs) :
    Calls Try.prog 50 #[.agg #[.int .u8 (k : Int), .int .u8 (f : Int), .slice A n c]] w (Fresh w (wrN n) (wrB k f xs)) := by
  have hl := hx.len
  by_cases h : 65531 < n
  · refine (ckwR_big k f A n c w (by omega)).mono fun e w' ⟨he, hb⟩ => ?_
    unfold wrN wrB
    rw [if_pos h, if_pos (by omega)]
    exact ⟨none, 0, he, Bo.nil _ _ _, hb⟩
  · unfold wrN wrB
    rw [if_neg h, if_neg (by omega)]
    exact ckwR_any k f A n c xs w hk hf hx (by omega)
theorem out3 {w1 : World} {g : Nat} {x y z a b c : Value} (h1 : w1.heap[g]? = some (.cells #[x, y, z] 45 (0, 0))) :
    (((w1.setCell ⟨g, 0, none⟩ a).setCell ⟨g, 1, none⟩ b).setCell ⟨g, 2, none⟩ c).heap[g]? = some (.cells #[a, b, c] 45 (0, 0)) := by
  have e1 := heap_setCell_same w1 g 0 _ 45 a h1
  have e2 := heap_setCell_same _ g 1 _ 45 b e1
  have e3 := heap_setCell_same _ g 2 _ 45 c e2
  exact e3
/-- A block that was there stays. -/
theorem stays {a b : World} {g : Nat} {o : Obj} (h : a.heap[g]? = some o) (hb : Below a.heap.size a b) : b.heap[g]? = some o := (hb.block _ (lt_of_heap h)).trans h
end Go.Proofs.Ythndlhflkbidiaa
