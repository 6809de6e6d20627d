/- chunk.Read: the padding is there. -/
import Derived.Test.YthndlhflkbidiaaChkR
import Derived.Deep.DeepCutAuto
namespace Go.Proofs.Ythndlhflkbidiaa
open Go.RowKit

theorem Cap.fine {w wr : World} {A : Option Addr} {N C n : Nat} {f : Bool} (h : Cap w wr A N C n f) (g : Bool) :
    Cap w (wr.setCell ⟨w.heap.size + 1 + 1 + 1, 0, none⟩ (.bool g)) A N C n g ∧ Ex2 (w.heap.size + 1 + 1) (w.heap.size + 1 + 1 + 1) wr (wr.setCell ⟨w.heap.size + 1 + 1 + 1, 0, none⟩ (.bool g)) := by
  refine ⟨⟨h.below.setCell (by simp; omega) _, ?_, ?_, ?_, one_setCell h.b3⟩, ⟨by simp [World.setCell], fun k _ _ hk => Below.heap_setCell _ _ _ _ hk⟩⟩
  · rw [Below.heap_setCell _ _ _ _ (by simp; omega)]; exact h.b0
  · rw [Below.heap_setCell _ _ _ _ (by simp)]; exact h.b1
  · rw [Below.heap_setCell _ _ _ _ (by simp)]; exact h.b2

theorem gb_front (b : List UInt8) (k : Nat) (h : k < 4) : gb ((b.drop 0).take 4) k = gb b k := by
  rw [List.drop_zero]
  simp [gb, List.getD, h]

set_option maxHeartbeats 1600000 in
theorem read_full (A : Option Addr) (N C : Nat) (b : List UInt8) (w : World) (hx : Rd w A N b) (hNC : N ≤ C) (hC : C ≤ 9223372036854775807) (hN : N ≤ 1000000) (h4 : 4 ≤ ckLen b) (h6 : up (ckLen b) ≤ N) :
    Calls Try.prog 51 #[.slice A N C] w (RdOut w b) := by
  have hlen := Lib.hid hx.len
  have hu0 := up_le (ckLen b)
  have h0 := cap0 w A N C
  unfold world0 at h0
  have HF := Lib.hid (ckLen_front b)
  obtain ⟨L, hL⟩ : ∃ L, L = ckLen b := ⟨_, rfl⟩
  have hLt := ckLen_lt b
  rw [← hL] at hLt h4 h6 hu0
  have HL := Lib.hid hL
  clear hL
  go_enter Try.func51, Try.ntmps51
  · go_wp2_with fail
    refine (take_yes w _ A N C 0 4 true 4 b rfl hx h0 (by omega) hNC hC hN).mono ?_
    rintro e w1 ⟨A1, c1, rfl, hB1, h1, _⟩
    simp only [Nat.zero_add] at h1
    have p3 := cell_of_one h1.b3
    go_wp2_with fail
    refine (get_yes _ _ _ _ 2 2 _ hB1.rd (by decide) (by omega) (by omega)).mono ?_
    rintro e w' ⟨rfl, rfl⟩
    rw [HF.out, ← HL.out]
    go_wp2_with fail
    refine (take_yes w _ A N C 4 (L - 4) true ((L : Int) - 4) b (by omega) hx h1 (by omega) hNC hC hN).mono ?_
    rintro e w2 ⟨A2, c2, rfl, hB2, h2, x2⟩
    rw [show 4 + (L - 4) = L by omega] at h2
    have q1 := fun i => cell_of_row w2 (w.heap.size + 1) i _ 45 (0, 0) h2.b1
    have f1 := fun i => frozen_of_row w2 (w.heap.size + 1) i _ 45 h2.b1
    have q2 := cell_of_one h2.b2
    have q3 := cell_of_one h2.b3
    have z2 := free_of_one h2.b2
    have hu := up_le L
    go_upto_region 8 with fail
    go_cut [34, 35, 36] (fun x y z wx => ∃ A3 c3, x = .slice A3 (up L - L) c3 ∧ y = .int .i64 ((up L - L : Nat) : Int) ∧ z = .int .i64 0 ∧ Bo wx w2.drew.heap.size A3 (up L - L) c3 ((b.drop L).take (up L - L)) ∧ Cap w wx A N C (up L) true ∧ Ex2 (w.heap.size + 1 + 1) (w.heap.size + 1 + 1 + 1) w2 wx)
    case first =>
      go_region_with (first
        | (go_at_call 39; refine (round_any L _ (by omega)).mono ?_; rintro e w' ⟨rfl, rfl⟩)
        | (go_at_call 74; refine (take_yes w _ A N C L (up L - L) true _ b (by rw [IntKind.wrap_i64]; omega) hx h2.drew (by omega) hNC hC hN).mono ?_; rintro e w3 ⟨A3, c3, rfl, hB3, h3, x3⟩))
      all_goals (go_wp2_with fail; go_meet; exact ⟨A3, c3, rfl, rfl, rfl, hB3, by rw [show up L = L + (up L - L) by omega]; exact h3, (Ex2.of_below (Below.refl _ _).drew).trans x3⟩)
    case rest =>
     obtain ⟨A3, c3, rfl, rfl, rfl, hB3, h3, x3⟩ := hcut
     clear q1 f1 q2 q3 z2
     have hp : w.heap.size + 1 + 1 < w2.drew.heap.size := lt_of_block h2.b2
     have hq : w.heap.size + 1 + 1 + 1 < w2.drew.heap.size := lt_of_block h2.b3
     have hsl : (w2.drew : World).heap.size ≤ wc.heap.size := x3.size
     go_wp2
     go_loopw [36] (fun x wx => ∃ j : Nat, j ≤ up L - L ∧ x = .int .i64 j ∧ Cap w wx A N C (up L) (allz (((b.drop L).take (up L - L)).take j)) ∧ Ex2 (w.heap.size + 1 + 1) (w.heap.size + 1 + 1 + 1) wc wx) (fun x _ => (up L - L) - (intOf x).toNat)
     case atStart => exact ⟨0, by omega, rfl, h3, Ex2.refl _ _ _⟩
     case round =>
      obtain ⟨j, hj, rfl, hc, hx4⟩ := hrel
      by_cases hlt : j < up L - L
      · obtain ⟨bk, off, rfl, hcl⟩ := (hx4.bo hB3 hp hq).rd.at_ hlt
        have ea := allz_take ((b.drop L).take (up L - L)) j (by rw [hB3.len]; exact hlt)
        obtain ⟨f, hf⟩ : ∃ f, f = allz (((b.drop L).take (up L - L)).take j) := ⟨_, rfl⟩
        rw [← hf] at hc ea
        clear hf
        have EA := Lib.hid ea
        clear ea
        have hlt' : (j : Int) < ((up L - L : Nat) : Int) := by omega
        have q3 := cell_of_one hc.b3
        have z3 := free_of_one hc.b3
        cases f
        all_goals (
         go_wp2
         go_roundw
         case rel =>
          refine ⟨j + 1, by omega, by go_num, ?_, ?_⟩
          · rw [EA.out]; exact (hc.fine _).1
          · exact hx4.trans (hc.fine _).2
         case measure => simp [intOf]; omega)
      · obtain ⟨f, hf⟩ : ∃ f, f = allz (((b.drop L).take (up L - L)).take j) := ⟨_, rfl⟩
        rw [← hf] at hc
        rw [List.take_of_length_le (by rw [hB3.len]; omega)] at hf
        have HZ := Lib.hid hf
        clear hf
        have hlt' : ¬ ((j : Int) < ((up L - L : Nat) : Int)) := by omega
        have B2 := hx4.bo (x3.bo hB2 (lt_of_block h1.b2) (lt_of_block h1.b3)) (lt_of_block h1.b2) (lt_of_block h1.b3)
        have B1 := hx4.bo (x3.bo (x2.bo hB1 (by simp) (by simp)) (by simp) (by simp)) (by simp) (by simp)
        obtain ⟨g1, o1, rfl, hg⟩ := B1.rd.form (by omega)
        have k0 := hg 0 (by omega)
        have k1 := hg 1 (by omega)
        simp only [Nat.add_zero] at k0
        rw [gb_front b 0 (by omega)] at k0
        rw [gb_front b 1 (by omega)] at k1
        clear hg
        have q1 := fun i => cell_of_row wr (w.heap.size + 1) i _ 45 (0, 0) hc.b1
        have f1 := fun i => frozen_of_row wr (w.heap.size + 1) i _ 45 hc.b1
        have q2 := cell_of_one hc.b2
        have q3 := cell_of_one hc.b3
        have z2 := free_of_one hc.b2
        cases f
        · have hno : ckOk b = false := by
            unfold ckOk
            rw [← HL.out, ← HZ.out]
            simp
          go_wp2
          have o1 := out_heap (a := .int .u8 0) (b := .int .u8 0) (c := .slice none 0 0) (d := .int .i64 0) hc.b1 hc.b2
          refine bodyPost_ret (v := .tuple #[.agg #[.int .u8 0, .int .u8 0, .slice none 0 0], .int .i64 0, .int .i64 7]) (by rw [res51 (g := w.heap.size + 1) rfl rfl o1.1 o1.2]; rfl) rfl ?_
          unfold RdOut
          rw [hno]
          refine ⟨rfl, hc.below.trans ?_⟩
          exact (((((Below.refl _ _).setCell (p := ⟨w.heap.size + 1, 0, none⟩) (by simp) _).setCell (p := ⟨w.heap.size + 1, 1, none⟩) (by simp) _).setCell (p := ⟨w.heap.size + 1, 2, none⟩) (by simp) _).setCell (p := ⟨w.heap.size + 1 + 1, 0, none⟩) (by simp; omega) _)
        · have hup := up_le L
          have hyes : ckOk b = true := by
            unfold ckOk
            rw [← HL.out, ← HZ.out, hlen.out]
            simp
            omega
          have hl1 := lt_of_block h1.b3
          have hl0 := h1.below.size
          go_wp2_with fail
          go_region
          go_wp2
          have o1 := out_heap (a := .int .u8 (gb b 0 : Int)) (b := .int .u8 (gb b 1 : Int)) (c := .slice A2 (L - 4) c2) (d := .int .i64 (up L : Int)) hc.b1 hc.b2
          refine bodyPost_ret (v := .tuple #[.agg #[.int .u8 (gb b 0 : Int), .int .u8 (gb b 1 : Int), .slice A2 (L - 4) c2], .int .i64 (up L : Int), .int .i64 0]) (by rw [res51 (g := w.heap.size + 1) rfl rfl (by exact o1.1) (by exact o1.2)]; rfl) rfl ?_
          unfold RdOut
          rw [hyes]
          refine ⟨A2, c2, by rw [← HL.out], ?_, hc.below.trans ?_⟩
          · rw [← HL.out]
            refine Bo.drewN (Bo.mono (B2.keep fun g hg hbg _ => ?_) hl0) 1
            rw [Below.heap_setCell _ _ _ _ (by simp; omega), Below.heap_setCell _ _ _ _ (by simp; omega), Below.heap_setCell _ _ _ _ (by simp; omega), Below.heap_setCell _ _ _ _ (by simp; omega)]
          · exact (((((Below.refl _ _).setCell (p := ⟨w.heap.size + 1, 0, none⟩) (by simp) _).setCell (p := ⟨w.heap.size + 1, 1, none⟩) (by simp) _).setCell (p := ⟨w.heap.size + 1, 2, none⟩) (by simp) _).setCell (p := ⟨w.heap.size + 1 + 1, 0, none⟩) (by simp; omega) _).drew
end Go.Proofs.Ythndlhflkbidiaa