/- The document's Read of a chunk. -/
import Derived.Test.YthndlhflkbidiaaChk
import Derived.Test.YthndlhflkbidiaaCopy
import Derived.Deep.DeepCutAuto
import Derived.Deep.RegionHeld3
namespace Go.Proofs.Ythndlhflkbidiaa
open Go.RowKit

/-- The result's block, as the call lays it. -/
structure Rs (w wr : World) : Prop where
  below : Below w.heap.size w wr
  b0 : wr.heap[w.heap.size]? = some (.cells #[.int .u8 0, .int .u8 0, .slice none 0 0] 45 (0, 0))
theorem Rs.first (w : World) : Rs w (w.alloc (.cells #[.int .u8 0, .int .u8 0, .slice none 0 0] 45)) := ⟨(Below.refl _ _).alloc (Nat.le_refl _) _, heap_alloc_new w _⟩
theorem Rs.next {w wr w1 : World} (h : Rs w wr) (hb : Below wr.heap.size wr w1) : Rs w w1 := ⟨h.below.trans (hb.mono h.below.size), (hb.block _ (lt_of_block h.b0)).trans h.b0⟩
theorem res52 {W : World} {tmps : Array Value} {g : Nat} {a b c : Value} (t2 : tmps.getD 2 undef = .pointer (some ⟨g, 0, none⟩))
    (h1 : W.heap[g]? = some (.cells #[a, b, c] 45 (0, 0))) :
    (results Try.f52 tmps).run Try.prog W = .ok (.tuple #[.agg #[a, b, c], tmps.getD 3 undef, tmps.getD 4 undef]) W := by
  have t2' : tmps[2]?.getD undef = .pointer (some ⟨g, 0, none⟩) := by simpa using t2
  have e1 := run_loadVar_row (P := Try.prog) W g 45 45 #[a, b, c] (0, 0) _ h1 Try.underlying45 rfl info45
  simp [results, t2', asAddr, e1]

theorem rdR_few (A : Option Addr) (N C : Nat) (b : List UInt8) (w : World) (hx : Rd w A N b) (hNC : N ≤ C) (hC : C ≤ 9223372036854775807) (hN : N ≤ 1000000) (h4 : N < 4) :
    Calls Try.prog 52 #[.slice A N C] w (RdBad w) := by
  have hw : wiB N 2 2 = false := by simp [wiB]; omega
  have HW := Lib.hid hw
  clear hw
  go_enter Try.func52, Try.ntmps52
  go_wp2_with fail
  refine (getR_no A N C b 2 2 _ (hx.alloc _) (.inr HW.out) hNC hC (by omega)).mono ?_
  rintro e w1 ⟨rfl, hb1⟩
  have h1 := (Rs.first w).next hb1
  clear hb1
  have q0 := fun i => cell_of_row w1 w.heap.size i _ 45 (0, 0) h1.b0
  have f0 := fun i => frozen_of_row w1 w.heap.size i _ 45 h1.b0
  go_wp2
  have o1 := out3 (a := .int .u8 0) (b := .int .u8 0) (c := .slice none 0 0) h1.b0
  refine bodyPost_ret (v := .tuple #[.agg #[.int .u8 0, .int .u8 0, .slice none 0 0], .int .i64 0, .int .i64 7]) (by rw [res52 (g := w.heap.size) rfl o1]; rfl) rfl ?_
  refine ⟨rfl, h1.below.trans ?_⟩
  exact ((((Below.refl _ _).setCell (p := ⟨w.heap.size, 0, none⟩) (by simp) _).setCell (p := ⟨w.heap.size, 1, none⟩) (by simp) _).setCell (p := ⟨w.heap.size, 2, none⟩) (by simp) _)


theorem rdR_len (A : Option Addr) (N C : Nat) (b : List UInt8) (w : World) (hx : Rd w A N b) (hNC : N ≤ C) (hC : C ≤ 9223372036854775807) (hN : N ≤ 1000000) (h4 : 4 ≤ N) (hb : ckLen b < 4 ∨ N < ckLen b) :
    Calls Try.prog 52 #[.slice A N C] w (RdBad w) := by
  obtain ⟨L, hL⟩ : ∃ L, L = ckLen b := ⟨_, rfl⟩
  have hLt := ckLen_lt b
  rw [← hL] at hLt hb
  have HL := Lib.hid hL
  clear hL
  by_cases h4L : L < 4
  all_goals (
  go_enter Try.func52, Try.ntmps52
  go_wp2_with fail
  refine (getR_yes A N C b 2 2 _ (hx.alloc _) (by decide) (by omega) hNC hC (by omega)).mono ?_
  rintro e w1 ⟨rfl, hb1⟩
  have h1 := (Rs.first w).next hb1
  clear hb1
  rw [show be ((b.drop 2).take 2) = L from HL.out.symm]
  have q0 := fun i => cell_of_row w1 w.heap.size i _ 45 (0, 0) h1.b0
  have f0 := fun i => frozen_of_row w1 w.heap.size i _ 45 h1.b0
  go_wp2
  have o1 := out3 (a := .int .u8 0) (b := .int .u8 0) (c := .slice none 0 0) h1.b0
  refine bodyPost_ret (v := .tuple #[.agg #[.int .u8 0, .int .u8 0, .slice none 0 0], .int .i64 0, .int .i64 7]) (by rw [res52 (g := w.heap.size) rfl o1]; rfl) rfl ?_
  refine ⟨rfl, h1.below.trans ?_⟩
  exact ((((Below.refl _ _).setCell (p := ⟨w.heap.size, 0, none⟩) (by simp) _).setCell (p := ⟨w.heap.size, 1, none⟩) (by simp) _).setCell (p := ⟨w.heap.size, 2, none⟩) (by simp) _))

theorem Rd.two {w : World} {g o n : Nat} {xs : List UInt8} (h : Rd w (some ⟨g, o, none⟩) n xs) (hn : 2 ≤ n) : w.cell? ⟨g, o, none⟩ = some (.int .u8 (gb xs 0 : Int)) ∧ w.cell? ⟨g, o + 1, none⟩ = some (.int .u8 (gb xs 1 : Int)) := by
  obtain ⟨b, off, e, hc⟩ := h.form (by omega)
  injection e with e
  injection e with e1 e2
  subst e1 e2
  exact ⟨hc 0 (by omega), hc 1 (by omega)⟩
structure Rc (w wr : World) (g : Nat) (b : List UInt8) (A2 : Option Addr) (m c2 : Nat) : Prop extends Rs w wr where
  lt : w.heap.size < g
  row : wr.heap[g]? = some (.cells #[.int .u8 (gb b 0 : Int), .int .u8 (gb b 1 : Int), .slice A2 m c2] 45 (0, 0))
  bo : Bo wr (w.heap.size + 1) A2 m c2 ((b.drop 4).take m)

theorem Rs.drew {w wr : World} (h : Rs w wr) : Rs w wr.drew := ⟨h.below.drew, h.b0⟩
theorem Rc.of1 {w w2 : World} {b : List UInt8} {A2 : Option Addr} {m c2 base : Nat} (h : Rs w w2) (hB : Bo w2 base A2 m c2 ((b.drop 4).take m)) (hb : w.heap.size < base) :
    Rc w (w2.alloc (.cells #[.int .u8 (gb b 0 : Int), .int .u8 (gb b 1 : Int), .slice A2 m c2] 45)) w2.heap.size b A2 m c2 :=
  ⟨h.next ((Below.refl _ _).alloc (Nat.le_refl _) _), lt_of_block h.b0, heap_alloc_new w2 _, (hB.mono hb).alloc _⟩
theorem Rc.of2 {w w2 : World} {b : List UInt8} {A2 : Option Addr} {m c2 base g : Nat} {x y z : Value} (h : Rs w w2) (hg : w.heap.size < g) (qb : w2.heap[g]? = some (.cells #[x, y, z] 45 (0, 0))) (hB : Bo w2 base A2 m c2 ((b.drop 4).take m)) (hb : g < base) :
    Rc w (((w2.setCell ⟨g, 0, none⟩ (.int .u8 (gb b 0 : Int))).setCell ⟨g, 1, none⟩ (.int .u8 (gb b 1 : Int))).setCell ⟨g, 2, none⟩ (.slice A2 m c2)) g b A2 m c2 := by
  have far : ∀ k, k ≠ g → (((w2.setCell ⟨g, 0, none⟩ (.int .u8 (gb b 0 : Int))).setCell ⟨g, 1, none⟩ (.int .u8 (gb b 1 : Int))).setCell ⟨g, 2, none⟩ (.slice A2 m c2)).heap[k]? = w2.heap[k]? := fun k hk => by
    rw [Below.heap_setCell _ _ _ _ hk, Below.heap_setCell _ _ _ _ hk, Below.heap_setCell _ _ _ _ hk]
  have hg' := Nat.le_of_lt hg
  exact ⟨⟨((h.below.setCell (p := ⟨g, 0, none⟩) hg' _).setCell (p := ⟨g, 1, none⟩) hg' _).setCell (p := ⟨g, 2, none⟩) hg' _, (far _ (by omega)).trans h.b0⟩, hg, out3 qb, Bo.mono (hB.keep fun k _ hk _ => far k (by omega)) (by omega)⟩

set_option maxHeartbeats 3200000 in
theorem rdR_full (A : Option Addr) (N C : Nat) (b : List UInt8) (w : World) (hx : Rd w A N b) (hNC : N ≤ C) (hC : C ≤ 9223372036854775807) (hN : N ≤ 1000000) (h4 : 4 ≤ ckLen b) (h5 : ckLen b ≤ N) :
    Calls Try.prog 52 #[.slice A N C] w (RdOut w b) := by
  have hlen := Lib.hid hx.len
  have hu := up_le (ckLen b)
  obtain ⟨L, hL⟩ : ∃ L, L = ckLen b := ⟨_, rfl⟩
  have hLt := ckLen_lt b
  rw [← hL] at hLt h4 h5 hu
  have HL := Lib.hid hL
  clear hL
  go_enter Try.func52, Try.ntmps52
  go_wp2_with fail
  refine (getR_yes A N C b 2 2 _ (hx.alloc _) (by decide) (by omega) hNC hC (by omega)).mono ?_
  rintro e w1 ⟨rfl, hb1⟩
  have h1 := (Rs.first w).next hb1
  clear hb1
  rw [show be ((b.drop 2).take 2) = L from HL.out.symm]
  have hx1 := hx.below h1.below
  obtain ⟨ga, oa, rfl, hg⟩ := hx1.form (by omega)
  have k0 := hg 0 (by omega)
  have k1 := hg 1 (by omega)
  simp only [Nat.add_zero] at k0
  clear hg
  have hlt1 : ¬ ((L : Int) < 4) := by omega
  have hlt2 : ¬ ((N : Int) < (L : Int)) := by omega
  go_upto_region 5 with fail
  go_cut [8] (fun x wx => ∃ g A2 c2, x = .pointer (some ⟨g, 0, none⟩) ∧ Rc w wx g b A2 (L - 4) c2)
  case first =>
    have hx1d : Rd w1.drew (some ⟨ga, oa, none⟩) N b := hx1
    have hgl := World.block_lt_of_cell? w1 _ k0
    have l1 := lt_of_block h1.b0
    have ne1 : w1.heap.size ≠ ga := Nat.ne_of_gt hgl
    have i0 : (0 : Int) < (N : Int) := by omega
    have i0' : 0 < N := by omega
    have i1 : (1 : Int) < (N : Int) := by omega
    have i4 : (4 : Int) ≤ (L : Int) := by omega
    have i4' : 4 ≤ L := by omega
    have iL' : L ≤ C := by omega
    have iL : (L : Int) ≤ (C : Int) := by omega
    obtain hC4 | ⟨rfl, rfl, rfl⟩ : ¬ C = 4 ∨ (C = 4 ∧ N = 4 ∧ L = 4) := by omega
    · go_region_held3 (fun w' => w'.cell? ⟨ga, oa, none⟩ = some (.int .u8 (gb b 0 : Int)) ∧ w'.cell? ⟨ga, oa + 1, none⟩ = some (.int .u8 (gb b 1 : Int)))
       (first | go_keep | (go_show; fail))
       (first
         | (go_at_call 62; refine (copy_any _ (L - 4) _ ((b.drop 4).take (L - 4)) _ (by first | exact hx1d.cut (k := 4) (m := L - 4) (by omega) hNC _ (by simp [*, Addr.add]) | exact (hx1d.alloc _).cut (k := 4) (m := L - 4) (by omega) hNC _ (by simp [*, Addr.add])) (by omega)).mono ?_; rintro e w2 ⟨A2, c2, rfl, hB2, hb2⟩; have hy : Rd w2 (some ⟨ga, oa, none⟩) N b := (by first | exact hx1d.below hb2 | exact (hx1d.alloc _).below hb2); have hj := hy.two (by omega); obtain ⟨j0, j1⟩ := hj; have ne2 : w2.heap.size ≠ ga := Nat.ne_of_gt (World.block_lt_of_cell? w2 _ j0); try (have qb := (hb2.block w1.heap.size (by simp)).trans (heap_alloc_new _ _); have q8 := fun i => cell_of_row w2 _ i _ 45 (0, 0) qb; have f8 := fun i => frozen_of_row w2 _ i _ 45 qb)))
      · go_wp2_with fail
        go_meet
        exact ⟨_, _, _, rfl, Rc.of1 (h1.drew.next hb2) hB2 l1⟩
      · go_wp2_with fail
        go_meet
        exact ⟨_, _, _, rfl, Rc.of2 ((h1.drew.next ((Below.refl _ _).alloc (Nat.le_refl _) _)).next hb2) l1 qb hB2 (by simp)⟩
    · go_region_held3 (fun w' => w'.cell? ⟨ga, oa, none⟩ = some (.int .u8 (gb b 0 : Int)) ∧ w'.cell? ⟨ga, oa + 1, none⟩ = some (.int .u8 (gb b 1 : Int)))
       (first | go_keep | (go_show; fail))
       (first
         | (go_at_call 62; refine (copy_any _ 0 _ [] _ (Rd.nil _ _) (by omega)).mono ?_; rintro e w2 ⟨A2, c2, rfl, hB2, hb2⟩; have hy : Rd w2 (some ⟨ga, oa, none⟩) 4 b := (by first | exact hx1d.below hb2 | exact (hx1d.alloc _).below hb2); have hj := hy.two (by omega); obtain ⟨j0, j1⟩ := hj; have ne2 : w2.heap.size ≠ ga := Nat.ne_of_gt (World.block_lt_of_cell? w2 _ j0); try (have qb := (hb2.block w1.heap.size (by simp)).trans (heap_alloc_new _ _); have q8 := fun i => cell_of_row w2 _ i _ 45 (0, 0) qb; have f8 := fun i => frozen_of_row w2 _ i _ 45 qb)))
      · go_wp2_with fail
        go_meet
        exact ⟨_, _, _, rfl, Rc.of1 (h1.drew.next hb2) (show Bo w2 _ A2 (4 - 4) c2 ((b.drop 4).take (4 - 4)) from hB2) l1⟩
      · go_wp2_with fail
        go_meet
        exact ⟨_, _, _, rfl, Rc.of2 ((h1.drew.next ((Below.refl _ _).alloc (Nat.le_refl _) _)).next hb2) l1 qb (show Bo w2 _ A2 (4 - 4) c2 ((b.drop 4).take (4 - 4)) from hB2) (by simp)⟩
  case rest =>
   obtain ⟨g, A2, c2, rfl, hR⟩ := hcut
   clear k0 k1
   have hxc := hx.below hR.below
   have r0 := fun i => cell_of_row wc g i _ 45 (0, 0) hR.row
   go_wp2_with fail
   refine (ckwR_any _ _ _ _ _ _ _ (gb_lt b 0) (gb_lt b 1) hR.bo.rd (by omega)).mono ?_
   rintro e w3 ⟨A3, c3, rfl, hB3, hb3⟩
   have h3 := hR.toRs.next hb3
   have hr3 := (hb3.block _ (lt_of_block hR.row)).trans hR.row
   have hbo := hR.bo.below hb3
   rw [show 4 + (L - 4) = L by omega] at hB3
   have r3 := fun i => cell_of_row w3 g i _ 45 (0, 0) hr3
   clear r0
   by_cases hup : (N : Int) < (up L : Int)
   · have hno : ckOk b = false := by
      unfold ckOk
      rw [← HL.out, hlen.out]
      simp
      omega
     have q0 := fun i => cell_of_row w3 w.heap.size i _ 45 (0, 0) h3.b0
     have f0 := fun i => frozen_of_row w3 w.heap.size i _ 45 h3.b0
     go_wp2
     have o1 := out3 (a := .int .u8 0) (b := .int .u8 0) (c := .slice none 0 0) h3.b0
     refine bodyPost_ret (v := .tuple #[.agg #[.int .u8 0, .int .u8 0, .slice none 0 0], .int .i64 0, .int .i64 7]) (by rw [res52 (g := w.heap.size) rfl o1]; rfl) rfl ?_
     unfold RdOut
     rw [hno]
     refine ⟨rfl, h3.below.trans ?_⟩
     exact ((((Below.refl _ _).setCell (p := ⟨w.heap.size, 0, none⟩) (by simp) _).setCell (p := ⟨w.heap.size, 1, none⟩) (by simp) _).setCell (p := ⟨w.heap.size, 2, none⟩) (by simp) _)
   · have hxe := (hx.below h3.below)
     have hEq := Lib.hid (ck_eq b (by rw [← HL.out]; omega) (by rw [← HL.out, hlen.out]; omega))
     rw [← HL.out] at hEq
     have hupN : up L ≤ N := by omega
     have q0 := fun i => cell_of_row w3 w.heap.size i _ 45 (0, 0) h3.b0
     have f0 := fun i => frozen_of_row w3 w.heap.size i _ 45 h3.b0
     go_wp2_with fail
     refine (eq_any _ _ _ _ _ _ _ _ _ hB3.rd (hxe.cut (k := 0) (m := up L) (by omega) hNC _ ?_) (by omega)).mono ?_
     · simp [Addr.add]
     rintro e w4 ⟨rfl, k4, rfl⟩
     rw [List.drop_zero, hEq.out]
     obtain ⟨f, hf⟩ : ∃ f, f = allz ((b.drop L).take (up L - L)) := ⟨_, rfl⟩
     rw [← hf]
     have HZ := Lib.hid hf
     clear hf
     have r4 := fun i => cell_of_row (w3.drewN k4) g i _ 45 (0, 0) hr3
     have q4 := fun i => cell_of_row (w3.drewN k4) w.heap.size i _ 45 (0, 0) h3.b0
     have f4 := fun i => frozen_of_row (w3.drewN k4) w.heap.size i _ 45 h3.b0
     cases f
     · have hno : ckOk b = false := by
        unfold ckOk
        rw [← HL.out, ← HZ.out]
        simp
       go_wp2
       have o1 := out3 (w1 := w3.drewN k4) (a := .int .u8 0) (b := .int .u8 0) (c := .slice none 0 0) h3.b0
       refine bodyPost_ret (v := .tuple #[.agg #[.int .u8 0, .int .u8 0, .slice none 0 0], .int .i64 0, .int .i64 7]) (by rw [res52 (g := w.heap.size) rfl o1]; rfl) rfl ?_
       unfold RdOut
       rw [hno]
       refine ⟨rfl, (below_drewN h3.below k4).trans ?_⟩
       exact ((((Below.refl _ _).setCell (p := ⟨w.heap.size, 0, none⟩) (by simp) _).setCell (p := ⟨w.heap.size, 1, none⟩) (by simp) _).setCell (p := ⟨w.heap.size, 2, none⟩) (by simp) _)
     · have hyes : ckOk b = true := by
        unfold ckOk
        rw [← HL.out, ← HZ.out, hlen.out]
        simp
        omega
       go_wp2
       have o1 := out3 (w1 := w3.drewN k4) (a := .int .u8 (gb b 0 : Int)) (b := .int .u8 (gb b 1 : Int)) (c := .slice A2 (L - 4) c2) h3.b0
       refine bodyPost_ret (v := .tuple #[.agg #[.int .u8 (gb b 0 : Int), .int .u8 (gb b 1 : Int), .slice A2 (L - 4) c2], .int .i64 (up L : Int), .int .i64 0]) (by rw [res52 (g := w.heap.size) rfl o1]; rfl) rfl ?_
       unfold RdOut
       rw [hyes]
       refine ⟨A2, c2, by rw [← HL.out], ?_, (below_drewN h3.below k4).trans ?_⟩
       · rw [← HL.out]
         refine Bo.mono (Bo.keep (w := w3) hbo fun g hg hbg _ => ?_) (Nat.le_succ _)
         rw [Below.heap_setCell _ _ _ _ (by simp; omega), Below.heap_setCell _ _ _ _ (by simp; omega), Below.heap_setCell _ _ _ _ (by simp; omega)]
         rfl
       · exact ((((Below.refl _ _).setCell (p := ⟨w.heap.size, 0, none⟩) (by simp) _).setCell (p := ⟨w.heap.size, 1, none⟩) (by simp) _).setCell (p := ⟨w.heap.size, 2, none⟩) (by simp) _)
end Go.Proofs.Ythndlhflkbidiaa
