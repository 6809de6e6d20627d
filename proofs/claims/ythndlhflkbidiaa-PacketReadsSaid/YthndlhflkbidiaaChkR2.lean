/- chunk.Read: the padding is not there. -/
import Derived.Test.YthndlhflkbidiaaChkR
import Derived.Deep.DeepCutAuto
namespace Go.Proofs.Ythndlhflkbidiaa
open Go.RowKit

set_option maxHeartbeats 1600000 in
theorem read_short (A : Option Addr) (N C : Nat) (b : List UInt8) (w : World) (hx : Rd w A N b) (hNC : N ≤ C) (hC : C ≤ 9223372036854775807) (hN : N ≤ 1000000) (h4 : 4 ≤ ckLen b) (h5 : ckLen b ≤ N) (h6 : N < up (ckLen b)) :
    Calls Try.prog 51 #[.slice A N C] w (RdBad w) := by
  have h0 := cap0 w A N C
  unfold world0 at h0
  have HF := Lib.hid (ckLen_front b)
  obtain ⟨L, hL⟩ : ∃ L, L = ckLen b := ⟨_, rfl⟩
  have hLt := ckLen_lt b
  rw [← hL] at hLt h4 h5 h6
  have HL := Lib.hid hL
  clear hL
  go_enter Try.func51, Try.ntmps51
  · go_wp2_with fail
    refine (take_yes w _ A N C 0 4 true 4 b rfl hx h0 (by omega) hNC hC hN).mono ?_
    rintro e w1 ⟨A1, c1, rfl, hB1, h1, _⟩
    simp only [Nat.zero_add] at h1
    have p3 := cell_of_one h1.b3
    go_wp2_with fail
    refine (get_yes _ _ _ _ 2 2 _ hB1.rd (by decide) (by omega) (by omega)).mono ?_
    rintro e w' ⟨rfl, rfl⟩
    rw [HF.out, ← HL.out]
    go_wp2_with fail
    refine (take_yes w _ A N C 4 (L - 4) true ((L : Int) - 4) b (by omega) hx h1 (by omega) hNC hC hN).mono ?_
    rintro e w2 ⟨A2, c2, rfl, hB2, h2, x2⟩
    rw [show 4 + (L - 4) = L by omega] at h2
    have q1 := fun i => cell_of_row w2 (w.heap.size + 1) i _ 45 (0, 0) h2.b1
    have f1 := fun i => frozen_of_row w2 (w.heap.size + 1) i _ 45 h2.b1
    have q2 := cell_of_one h2.b2
    have q3 := cell_of_one h2.b3
    have z2 := free_of_one h2.b2
    have hu := up_le L
    go_upto_region 8 with fail
    go_cut [34, 35, 36] (fun x y z wx => x = .slice none 0 0 ∧ y = .int .i64 0 ∧ z = .int .i64 0 ∧ Cap w wx A N C L false)
    case first =>
      go_region_with (first
        | (go_at_call 39; refine (round_any L _ (by omega)).mono ?_; rintro e w' ⟨rfl, rfl⟩)
        | (go_at_call 74; refine (take_no w _ A N C L _ true h2.drew (by rw [IntKind.wrap_i64]; simp [wiB]; omega) hN (by omega)).mono ?_; rintro e w3 ⟨rfl, h3, x3⟩))
      all_goals (go_wp2_with fail; go_meet; exact ⟨rfl, rfl, rfl, h3⟩)
    case rest =>
     obtain ⟨rfl, rfl, rfl, h3⟩ := hcut
     clear q1 f1 q2 q3 z2
     have q1 := fun i => cell_of_row wc (w.heap.size + 1) i _ 45 (0, 0) h3.b1
     have f1 := fun i => frozen_of_row wc (w.heap.size + 1) i _ 45 h3.b1
     have q2 := cell_of_one h3.b2
     have q3 := cell_of_one h3.b3
     have z2 := free_of_one h3.b2
     go_wp2
     refine wp_loop_rounds 1 ?_
     rw [rounds_succ]
     go_wp2
     have o1 := out_heap (a := .int .u8 0) (b := .int .u8 0) (c := .slice none 0 0) (d := .int .i64 0) h3.b1 h3.b2
     refine bodyPost_ret (v := .tuple #[.agg #[.int .u8 0, .int .u8 0, .slice none 0 0], .int .i64 0, .int .i64 7]) (by rw [res51 (g := w.heap.size + 1) rfl rfl o1.1 o1.2]; rfl) rfl ?_
     refine ⟨rfl, h3.below.trans ?_⟩
     exact (((((Below.refl _ _).setCell (p := ⟨w.heap.size + 1, 0, none⟩) (by simp) _).setCell (p := ⟨w.heap.size + 1, 1, none⟩) (by simp) _).setCell (p := ⟨w.heap.size + 1, 2, none⟩) (by simp) _).setCell (p := ⟨w.heap.size + 1 + 1, 0, none⟩) (by simp; omega) _)

end Go.Proofs.Ythndlhflkbidiaa