/- chunk.Read: the chunk with which bytes begin, or that there is none. -/
import Derived.Test.YthndlhflkbidiaaTake
namespace Go.Proofs.Ythndlhflkbidiaa
open Go.RowKit

def ckLen (b : List UInt8) : Nat := be ((b.drop 2).take 2)
/-- Nothing but noughts. -/
def allz (xs : List UInt8) : Bool := xs.all (· == 0)
/-- Do the bytes begin with a chunk? -/
def ckOk (b : List UInt8) : Bool := decide (4 ≤ b.length) && decide (4 ≤ ckLen b) && decide (up (ckLen b) ≤ b.length) && allz ((b.drop (ckLen b)).take (up (ckLen b) - ckLen b))

theorem allz_take (xs : List UInt8) (k : Nat) (h : k < xs.length) : allz (xs.take (k + 1)) = (allz (xs.take k) && ((gb xs k : Int) == 0)) := by
  rw [List.take_succ_eq_append_getElem h]
  unfold allz
  rw [List.all_append, gb_get xs k h]
  simp only [List.all_cons, List.all_nil, Bool.and_true]
  congr 1
  rw [Bool.eq_iff_iff]
  simp [← UInt8.toNat_inj]

def RdGood (w : World) (b : List UInt8) (e : Ending) (w' : World) : Prop :=
  ∃ A c, e = .returned (.tuple #[.agg #[.int .u8 (gb b 0 : Int), .int .u8 (gb b 1 : Int), .slice A (ckLen b - 4) c], .int .i64 (up (ckLen b) : Int), .int .i64 0]) ∧
    Bo w' w.heap.size A (ckLen b - 4) c ((b.drop 4).take (ckLen b - 4)) ∧ Below w.heap.size w w'
def RdBad (w : World) (e : Ending) (w' : World) : Prop :=
  e = .returned (.tuple #[.agg #[.int .u8 0, .int .u8 0, .slice none 0 0], .int .i64 0, .int .i64 7]) ∧ Below w.heap.size w w'
/-- What chunk.Read answers. -/
def RdOut (w : World) (b : List UInt8) (e : Ending) (w' : World) : Prop := if ckOk b = true then RdGood w b e w' else RdBad w e w'

/-- The first four blocks, as the call lays them. -/
def world0 (w : World) (A : Option Addr) (N C : Nat) : World :=
  (((w.alloc (.cells #[.slice A N C] 22)).alloc (.cells #[.int .u8 0, .int .u8 0, .slice none 0 0] 45)).alloc (.cells #[.int .i64 0] 3)).alloc (.cells #[.bool true] 4)
theorem cap0 (w : World) (A : Option Addr) (N C : Nat) : Cap w (world0 w A N C) A N C 0 true := by
  refine ⟨?_, ?_, ?_, ?_, ?_⟩
  · exact ((((Below.refl _ _).alloc (Nat.le_refl _) _).alloc (by simp only [World.size_alloc]; omega) _).alloc (by simp only [World.size_alloc]; omega) _).alloc (by simp only [World.size_alloc]; omega) _
  · unfold world0
    rw [Below.heap_alloc _ _ _ (by simp only [World.size_alloc]; omega), Below.heap_alloc _ _ _ (by simp only [World.size_alloc]; omega), Below.heap_alloc _ _ _ (by simp only [World.size_alloc]; omega)]
    exact heap_alloc_new w _
  · unfold world0
    rw [Below.heap_alloc _ _ _ (by simp only [World.size_alloc]; omega), Below.heap_alloc _ _ _ (by simp only [World.size_alloc]; omega)]
    have := heap_alloc_new (w.alloc (.cells #[.slice A N C] 22)) (.cells #[.int .u8 0, .int .u8 0, .slice none 0 0] 45)
    simpa using this
  · unfold world0
    rw [Below.heap_alloc _ _ _ (by simp only [World.size_alloc]; omega)]
    have := heap_alloc_new ((w.alloc (.cells #[.slice A N C] 22)).alloc (.cells #[.int .u8 0, .int .u8 0, .slice none 0 0] 45)) (.cells #[.int .i64 0] 3)
    simpa using this
  · unfold world0
    have := heap_alloc_new (((w.alloc (.cells #[.slice A N C] 22)).alloc (.cells #[.int .u8 0, .int .u8 0, .slice none 0 0] 45)).alloc (.cells #[.int .i64 0] 3)) (.cells #[.bool true] 4)
    simpa using this

theorem Cap.drew {w wr : World} {A : Option Addr} {N C n : Nat} {f : Bool} (h : Cap w wr A N C n f) : Cap w wr.drew A N C n f := ⟨h.below.drew, h.b0, h.b1, h.b2, h.b3⟩
/-- What stands in the two results' blocks when the call ends. -/
theorem out_heap {w1 : World} {g : Nat} {x y z a b c d u : Value} (h1 : w1.heap[g]? = some (.cells #[x, y, z] 45 (0, 0))) (h2 : w1.heap[g + 1]? = some (.cells #[u] 3 (0, 0))) :
    ((((w1.setCell ⟨g, 0, none⟩ a).setCell ⟨g, 1, none⟩ b).setCell ⟨g, 2, none⟩ c).setCell ⟨g + 1, 0, none⟩ d).heap[g]? = some (.cells #[a, b, c] 45 (0, 0)) ∧
    ((((w1.setCell ⟨g, 0, none⟩ a).setCell ⟨g, 1, none⟩ b).setCell ⟨g, 2, none⟩ c).setCell ⟨g + 1, 0, none⟩ d).heap[g + 1]? = some (.cells #[d] 3 (0, 0)) := by
  constructor
  · rw [Below.heap_setCell _ _ _ _ (by simp)]
    have e1 := heap_setCell_same w1 g 0 _ 45 a h1
    have e2 := heap_setCell_same _ g 1 _ 45 b e1
    have e3 := heap_setCell_same _ g 2 _ 45 c e2
    exact e3
  · refine one_setCell (v := u) ?_
    rw [Below.heap_setCell _ _ _ _ (by simp), Below.heap_setCell _ _ _ _ (by simp), Below.heap_setCell _ _ _ _ (by simp)]
    exact h2
theorem info45 : (Try.prog.info? 45).map (·.size) = some 3 := by kernel_rfl
theorem info3 : (Try.prog.info? 3).map (·.size) = some 1 := by kernel_rfl
theorem res51 {W : World} {tmps : Array Value} {g : Nat} {a b c d : Value} (t2 : tmps.getD 2 undef = .pointer (some ⟨g, 0, none⟩)) (t3 : tmps.getD 3 undef = .pointer (some ⟨g + 1, 0, none⟩))
    (h1 : W.heap[g]? = some (.cells #[a, b, c] 45 (0, 0))) (h2 : W.heap[g + 1]? = some (.cells #[d] 3 (0, 0))) :
    (results Try.f51 tmps).run Try.prog W = .ok (.tuple #[.agg #[a, b, c], d, tmps.getD 4 undef]) W := by
  have t2' : tmps[2]?.getD undef = .pointer (some ⟨g, 0, none⟩) := by simpa using t2
  have t3' : tmps[3]?.getD undef = .pointer (some ⟨g + 1, 0, none⟩) := by simpa using t3
  have e1 := run_loadVar_row (P := Try.prog) W g 45 45 #[a, b, c] (0, 0) _ h1 Try.underlying45 rfl info45
  have e2 : (loadVar 3 ⟨g + 1, 0, none⟩).run Try.prog W = .ok d W := by
    have := cell_of_one h2
    simp [go_sem, this]
  simp [results, t2', t3', asAddr, e1, e2]


theorem read_few (A : Option Addr) (N C : Nat) (w : World) (hN : N ≤ 1000000) (h4 : N < 4) :
    Calls Try.prog 51 #[.slice A N C] w (RdBad w) := by
  have hw : wiB N 0 4 = false := by simp [wiB]; omega
  have h0 := cap0 w A N C
  unfold world0 at h0
  go_enter Try.func51, Try.ntmps51
  · go_wp2_with fail
    refine (take_no w _ A N C 0 4 true h0 hw hN (by omega)).mono ?_
    rintro e w1 ⟨rfl, h1, _⟩
    have q1 := fun i => cell_of_row w1 (w.heap.size + 1) i _ 45 (0, 0) h1.b1
    have f1 := fun i => frozen_of_row w1 (w.heap.size + 1) i _ 45 h1.b1
    have q2 := cell_of_one h1.b2
    have q3 := cell_of_one h1.b3
    have z2 := free_of_one h1.b2
    go_wp2
    have o1 := out_heap (a := .int .u8 0) (b := .int .u8 0) (c := .slice none 0 0) (d := .int .i64 0) h1.b1 h1.b2
    refine bodyPost_ret (v := .tuple #[.agg #[.int .u8 0, .int .u8 0, .slice none 0 0], .int .i64 0, .int .i64 7]) (by rw [res51 (g := w.heap.size + 1) rfl rfl o1.1 o1.2]; rfl) rfl ?_
    refine ⟨rfl, h1.below.trans ?_⟩
    exact (((((Below.refl _ _).setCell (p := ⟨w.heap.size + 1, 0, none⟩) (by simp) _).setCell (p := ⟨w.heap.size + 1, 1, none⟩) (by simp) _).setCell (p := ⟨w.heap.size + 1, 2, none⟩) (by simp) _).setCell (p := ⟨w.heap.size + 1 + 1, 0, none⟩) (by simp; omega) _)

theorem ckLen_lt (b : List UInt8) : ckLen b < 65536 := by
  have h := be_lt ((b.drop 2).take 2)
  have h2 : 256 ^ ((b.drop 2).take 2).length ≤ 256 ^ 2 := Nat.pow_le_pow_right (by omega) (by simp; omega)
  have h3 : (256 : Nat) ^ 2 = 65536 := by decide
  unfold ckLen
  omega
theorem ckLen_front (b : List UInt8) : be ((((b.drop 0).take 4).drop 2).take 2) = ckLen b := by
  unfold ckLen
  rw [List.drop_zero, List.drop_take, List.take_take]
  rfl


set_option maxHeartbeats 1600000 in
/-- The body is not there. -/
theorem read_body (A : Option Addr) (N C : Nat) (b : List UInt8) (w : World) (hx : Rd w A N b) (hNC : N ≤ C) (hC : C ≤ 9223372036854775807) (hN : N ≤ 1000000) (h4 : 4 ≤ N) (hb : ckLen b < 4 ∨ N < ckLen b) :
    Calls Try.prog 51 #[.slice A N C] w (RdBad w) := by
  have h0 := cap0 w A N C
  unfold world0 at h0
  have HF := Lib.hid (ckLen_front b)
  obtain ⟨L, hL⟩ : ∃ L, L = ckLen b := ⟨_, rfl⟩
  have hLt := ckLen_lt b
  rw [← hL] at hLt hb
  have HL := Lib.hid hL
  clear hL
  go_enter Try.func51, Try.ntmps51
  · go_wp2_with fail
    refine (take_yes w _ A N C 0 4 true 4 b rfl hx h0 (by omega) hNC hC hN).mono ?_
    rintro e w1 ⟨A1, c1, rfl, hB1, h1, _⟩
    simp only [Nat.zero_add] at h1
    have p3 := cell_of_one h1.b3
    go_wp2_with fail
    refine (get_yes _ _ _ _ 2 2 _ hB1.rd (by decide) (by omega) (by omega)).mono ?_
    rintro e w' ⟨rfl, rfl⟩
    rw [HF.out, ← HL.out]
    go_wp2_with fail
    have hw : wiB N 4 ((L : Int) - 4) = false := by simp [wiB]; omega
    refine (take_no w _ A N C 4 _ true h1 hw hN (by omega)).mono ?_
    rintro e w2 ⟨rfl, h2, _⟩
    have q1 := fun i => cell_of_row w2 (w.heap.size + 1) i _ 45 (0, 0) h2.b1
    have f1 := fun i => frozen_of_row w2 (w.heap.size + 1) i _ 45 h2.b1
    have q2 := cell_of_one h2.b2
    have q3 := cell_of_one h2.b3
    have z2 := free_of_one h2.b2
    go_wp2_with fail
    go_region_with (first
      | (go_at_call 39; refine (round_any 4 _ (by omega)).mono ?_; rintro e w' ⟨rfl, rfl⟩; rw [show up 4 = 4 from rfl])
      | (go_at_call 74; refine (take_yes w _ A N C 4 0 false _ b (by rw [IntKind.wrap_i64]; omega) hx h2.drew (by omega) hNC hC hN).mono ?_; rintro e w3 ⟨A3, c3, rfl, hB3, h3, x3⟩))
    all_goals (
     have q1 := fun i => cell_of_row w3 (w.heap.size + 1) i _ 45 (0, 0) h3.b1
     have f1 := fun i => frozen_of_row w3 (w.heap.size + 1) i _ 45 h3.b1
     have q2 := cell_of_one h3.b2
     have q3 := cell_of_one h3.b3
     have z2 := free_of_one h3.b2
     go_wp2
     refine wp_loop_rounds 1 ?_
     rw [rounds_succ]
     go_wp2
     skip)
    all_goals (

     have o1 := out_heap (a := .int .u8 0) (b := .int .u8 0) (c := .slice none 0 0) (d := .int .i64 0) h3.b1 h3.b2
     refine bodyPost_ret (v := .tuple #[.agg #[.int .u8 0, .int .u8 0, .slice none 0 0], .int .i64 0, .int .i64 7]) (by rw [res51 (g := w.heap.size + 1) rfl rfl o1.1 o1.2]; rfl) rfl ?_
     refine ⟨rfl, h3.below.trans ?_⟩
     exact (((((Below.refl _ _).setCell (p := ⟨w.heap.size + 1, 0, none⟩) (by simp) _).setCell (p := ⟨w.heap.size + 1, 1, none⟩) (by simp) _).setCell (p := ⟨w.heap.size + 1, 2, none⟩) (by simp) _).setCell (p := ⟨w.heap.size + 1 + 1, 0, none⟩) (by simp; omega) _))

end Go.Proofs.Ythndlhflkbidiaa
