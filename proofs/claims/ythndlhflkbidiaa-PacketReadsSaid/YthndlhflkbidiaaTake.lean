/- The closure of chunk.Read that takes so many bytes: what it leaves in the three variables that it has caught. -/
import Derived.Test.YthndlhflkbidiaaChkW
namespace Go.Proofs.Ythndlhflkbidiaa
open Go.RowKit

/-- The four blocks that chunk.Read lays first: its bytes, its chunk, how many bytes are read, whether all is fine. -/
structure Cap (w wr : World) (A : Option Addr) (N C n : Nat) (f : Bool) : Prop where
  below : Below w.heap.size w wr
  b0 : wr.heap[w.heap.size]? = some (.cells #[.slice A N C] 22 (0, 0))
  b1 : wr.heap[w.heap.size + 1]? = some (.cells #[.int .u8 0, .int .u8 0, .slice none 0 0] 45 (0, 0))
  b2 : wr.heap[w.heap.size + 1 + 1]? = some (.cells #[.int .i64 (n : Int)] 3 (0, 0))
  b3 : wr.heap[w.heap.size + 1 + 1 + 1]? = some (.cells #[.bool f] 4 (0, 0))

/-- But for two blocks all that was there is as it was. -/
structure Ex2 (p q : Nat) (a w : World) : Prop where
  size : a.heap.size ≤ w.heap.size
  block : ∀ k, k < a.heap.size → k ≠ p → k ≠ q → w.heap[k]? = a.heap[k]?
theorem Ex2.refl (p q : Nat) (a : World) : Ex2 p q a a := ⟨Nat.le_refl _, fun _ _ _ _ => rfl⟩
theorem Ex2.trans {p q : Nat} {a b c : World} (h : Ex2 p q a b) (k : Ex2 p q b c) : Ex2 p q a c :=
  ⟨Nat.le_trans h.size k.size, fun i hi h1 h2 => (k.block i (Nat.lt_of_lt_of_le hi h.size) h1 h2).trans (h.block i hi h1 h2)⟩
theorem Ex2.of_below {p q : Nat} {a b : World} (h : Below a.heap.size a b) : Ex2 p q a b := ⟨h.size, fun i hi _ _ => h.block i hi⟩
theorem Ex2.bo {p q : Nat} {a b : World} (h : Ex2 p q a b) {base : Nat} {A : Option Addr} {n c : Nat} {xs : List UInt8} (hB : Bo a base A n c xs) (hp : p < base) (hq : q < base) : Bo b base A n c xs :=
  hB.keep fun g hg hbg _ => h.block g hg (by omega) (by omega)

theorem Cap.next {w wr w1 : World} {A : Option Addr} {N C n m : Nat} {f g : Bool} (h : Cap w wr A N C n f) (hb : Below wr.heap.size wr w1) :
    Cap w ((w1.setCell ⟨w.heap.size + 1 + 1 + 1, 0, none⟩ (.bool g)).setCell ⟨w.heap.size + 1 + 1, 0, none⟩ (.int .i64 (m : Int))) A N C m g ∧
    Ex2 (w.heap.size + 1 + 1) (w.heap.size + 1 + 1 + 1) wr ((w1.setCell ⟨w.heap.size + 1 + 1 + 1, 0, none⟩ (.bool g)).setCell ⟨w.heap.size + 1 + 1, 0, none⟩ (.int .i64 (m : Int))) := by
  have l0 := lt_of_block h.b0
  have l1 := lt_of_block h.b1
  have l2 := lt_of_block h.b2
  have l3 := lt_of_block h.b3
  have c0 := (hb.block _ l0).trans h.b0
  have c1 := (hb.block _ l1).trans h.b1
  have c2 := (hb.block _ l2).trans h.b2
  have c3 := (hb.block _ l3).trans h.b3
  have far : ∀ k, k ≠ w.heap.size + 1 + 1 → k ≠ w.heap.size + 1 + 1 + 1 → ((w1.setCell ⟨w.heap.size + 1 + 1 + 1, 0, none⟩ (.bool g)).setCell ⟨w.heap.size + 1 + 1, 0, none⟩ (.int .i64 (m : Int))).heap[k]? = w1.heap[k]? := fun k h2 h3 => by
    rw [Below.heap_setCell _ _ _ _ h2, Below.heap_setCell _ _ _ _ h3]
  refine ⟨⟨?_, (far _ (by omega) (by omega)).trans c0, (far _ (by omega) (by omega)).trans c1, ?_, ?_⟩, ⟨by simpa [World.setCell] using hb.size, fun k hk h2 h3 => (far k h2 h3).trans (hb.block k hk)⟩⟩
  · exact ((h.below.trans (hb.mono h.below.size)).setCell (p := ⟨w.heap.size + 1 + 1 + 1, 0, none⟩) (by simp; omega) _).setCell (p := ⟨w.heap.size + 1 + 1, 0, none⟩) (by simp; omega) _
  · exact one_setCell (by rw [Below.heap_setCell _ _ _ _ (by simp)]; exact c2)
  · rw [Below.heap_setCell _ _ _ _ (by simp)]; exact one_setCell c3

theorem take_yes (w wr : World) (A : Option Addr) (N C n k : Nat) (f : Bool) (ki : Int) (xs : List UInt8) (ek : ki = (k : Int)) (hx : Rd w A N xs) (h : Cap w wr A N C n f) (hnk : n + k ≤ N) (hNC : N ≤ C) (hC : C ≤ 9223372036854775807) (hN : N ≤ 1000000) :
    Calls Try.prog 74 #[.int .i64 ki, .pointer (some ⟨w.heap.size, 0, none⟩), .pointer (some ⟨w.heap.size + 1 + 1, 0, none⟩), .pointer (some ⟨w.heap.size + 1 + 1 + 1, 0, none⟩)] wr fun e w' =>
      ∃ A2 c2, e = .returned (.slice A2 k c2) ∧ Bo w' wr.heap.size A2 k c2 ((xs.drop n).take k) ∧ Cap w w' A N C (n + k) f ∧ Ex2 (w.heap.size + 1 + 1) (w.heap.size + 1 + 1 + 1) wr w' := by
  subst ek
  have hx1 : Rd wr A N xs := hx.below h.below
  have l2 := lt_of_block h.b2
  have l3 := lt_of_block h.b3
  have l0 := lt_of_block h.b0
  have r0 := cell_of_one h.b0
  have r2 := cell_of_one h.b2
  have r3 := cell_of_one h.b3
  cases f
  all_goals
   go_enter Try.func74, Try.ntmps74
   go_wp2_with fail
   refine (cut_yes A N C xs n k _ hx1 hnk hNC hC (by omega)).mono ?_
   rintro e w1 ⟨A1, c1, rfl, hB1, hb1⟩
   have q2 := cell_of_one ((hb1.block _ l2).trans h.b2)
   have q3 := cell_of_one ((hb1.block _ l3).trans h.b3)
   have z2 := free_of_one ((hb1.block _ l2).trans h.b2)
   have z3 := free_of_one ((hb1.block _ l3).trans h.b3)
   go_wp2
   go_ret
   refine ⟨A1, c1, rfl, ?_, ?_⟩
   · refine hB1.keep fun g hg hbg _ => ?_
     rw [Below.heap_setCell _ _ _ _ (by simp; omega), Below.heap_setCell _ _ _ _ (by simp; omega)]
   · have e := fun g => h.next (m := n + k) (g := g) hb1
     simp only [Int.natCast_add] at e
     exact e _

theorem take_no (w wr : World) (A : Option Addr) (N C n : Nat) (k : Int) (f : Bool) (h : Cap w wr A N C n f) (hw : wiB N n k = false) (hN : N ≤ 1000000) (hn : n ≤ 1000000) :
    Calls Try.prog 74 #[.int .i64 k, .pointer (some ⟨w.heap.size, 0, none⟩), .pointer (some ⟨w.heap.size + 1 + 1, 0, none⟩), .pointer (some ⟨w.heap.size + 1 + 1 + 1, 0, none⟩)] wr fun e w' =>
      e = .returned (.slice none 0 0) ∧ Cap w w' A N C n false ∧ Ex2 (w.heap.size + 1 + 1) (w.heap.size + 1 + 1 + 1) wr w' := by
  have l2 := lt_of_block h.b2
  have l3 := lt_of_block h.b3
  have l0 := lt_of_block h.b0
  have r0 := cell_of_one h.b0
  have r2 := cell_of_one h.b2
  have r3 := cell_of_one h.b3
  have z2 := free_of_one h.b2
  have z3 := free_of_one h.b3
  have HW := Lib.hid hw
  clear hw
  cases f
  all_goals
   go_enter Try.func74, Try.ntmps74
   go_wp2_with (go_at_call 35; refine (cut_no A N C n k _ HW.out (by omega)).mono ?_; rintro e w' ⟨rfl, rfl⟩)
   go_ret
   have e := h.next (m := n) (g := false) (Below.refl _ _)
   exact ⟨rfl, e⟩
end Go.Proofs.Ythndlhflkbidiaa
