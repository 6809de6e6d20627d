/- works of the packets' layer. -/
import Derived.Test.YthndlhflkbidiaaPkRd
import Derived.Test.YthndlhflkbidiaaSmW
import Derived.Test.YthndlhflkbidiaaSzW
namespace Go.Proofs.Ythndlhflkbidiaa
open Go Go.RowKit

def wkC : List Ck := [⟨11, 0, []⟩, ⟨0, 3, [1, 2]⟩]
def wkB : List UInt8 := pkB 7 wkC
theorem wk_may : mayB wkC = true := by decide
theorem wk_len : wkB.length = 24 := by
  unfold wkB
  rw [pkB_laid wk_may, laid_length]
  decide
theorem wk_gb : gb wkB 4 = 0 := by
  unfold wkB
  rw [pkB_laid wk_may]
  unfold laidB headB gb
  rw [List.getD_eq_getElem?_getD, List.getElem?_append_left (by simp [nb_length]), List.getElem?_append_left (by simp [nb_length])]
  decide
theorem wk_bad : pkErr (wkB.set 4 1) = 8 := by decide +kernel
theorem wk_good : pkErr wkB = 0 ∧ pkCks wkB = wkC ∧ pkTag wkB = 7 := pk_read_written 7 wkC (by decide) wk_may
theorem wk_size : sizeB wkC = 24 := by decide
theorem wk_cks (w : World) : Cks ((w.alloc (.cells #[.int .u8 1, .int .u8 2] 5)).alloc (.cells #[.int .u8 11, .int .u8 0, .slice none 0 0, .int .u8 0, .int .u8 3, .slice (some ⟨w.heap.size, 0, none⟩) 2 2] 45)) (some ⟨w.heap.size + 1, 0, none⟩) 2 wkC := by
  refine ⟨rfl, fun _ => ⟨w.heap.size + 1, 0, rfl, fun j hj => ?_⟩⟩
  have hb := rd_two w 1 2 (by decide) (by decide)
  have hr := (hb.alloc (.cells #[.int .u8 11, .int .u8 0, .slice none 0 0, .int .u8 0, .int .u8 3, .slice (some ⟨w.heap.size, 0, none⟩) 2 2] 45)).rd
  have hn := heap_alloc_new (w.alloc (.cells #[.int .u8 1, .int .u8 2] 5)) (.cells #[.int .u8 11, .int .u8 0, .slice none 0 0, .int .u8 0, .int .u8 3, .slice (some ⟨w.heap.size, 0, none⟩) 2 2] 45)
  simp only [World.size_alloc] at hn
  have hc := fun i => cell_of_row _ (w.heap.size + 1) i _ 45 (0, 0) hn
  match j, hj with
  | 0, _ => exact ⟨none, 0, 0, hc 0, hc 1, hc 2, Rd.nil _ _, Nat.le_refl _, by omega⟩
  | 1, _ => exact ⟨some ⟨w.heap.size, 0, none⟩, 2, 2, hc 3, hc 4, hc 5, hr, Nat.le_refl _, by omega⟩

set_option maxRecDepth 100000 in
set_option maxHeartbeats 1600000 in
theorem works10_any (w : World) : Calls Try.prog 41 #[] w fun e w' => e = .returned (.bool true) ∧ Below w.heap.size w w' := by
  have hk := wk_cks w
  have t0 : Below w.heap.size w ((w.alloc (.cells #[.int .u8 1, .int .u8 2] 5)).alloc (.cells #[.int .u8 11, .int .u8 0, .slice none 0 0, .int .u8 0, .int .u8 3, .slice (some ⟨w.heap.size, 0, none⟩) 2 2] 45)) := ((Below.refl _ _).alloc (Nat.le_refl _) _).alloc (by simp) _
  have sz : ((w.alloc (.cells #[.int .u8 1, .int .u8 2] 5)).alloc (.cells #[.int .u8 11, .int .u8 0, .slice none 0 0, .int .u8 0, .int .u8 3, .slice (some ⟨w.heap.size, 0, none⟩) 2 2] 45)).heap.size = w.heap.size + 1 + 1 := by simp
  go_enter Try.func41, Try.ntmps41
  obtain ⟨bts, hbts⟩ : ∃ x, x = pkB 7 wkC := ⟨_, rfl⟩
  have hlen : bts.length = 24 := by rw [hbts]; exact wk_len
  have hgood : pkErr bts = 0 ∧ pkCks bts = wkC ∧ pkTag bts = 7 := by rw [hbts]; exact wk_good
  have hbad : pkErr (bts.set 4 1) = 8 := by rw [hbts]; exact wk_bad
  have hgb : gb bts 4 = 0 := by rw [hbts]; exact wk_gb
  have HLEN := Lib.hid hlen
  have HGOOD := Lib.hid hgood
  have HBAD := Lib.hid hbad
  have HGB := Lib.hid hgb
  have HBT := Lib.hid hbts
  have HSZ := Lib.hid sz
  clear hlen hgood hbad hgb hbts sz
  go_wp2_with fail
  generalize (w.alloc (.cells #[.int .u8 1, .int .u8 2] 5)).alloc (.cells #[.int .u8 11, .int .u8 0, .slice none 0 0, .int .u8 0, .int .u8 3, .slice (some ⟨w.heap.size, 0, none⟩) 2 2] 45) = W0 at *
  refine (write10_any 7 _ 2 2 wkC _ (by decide) (hk.alloc _) (by omega)).mono ?_
  rintro e w1 ⟨A1, c1, rfl, hB1, hb1⟩
  rw [← HBT.out, HLEN.out] at hB1
  rw [← HBT.out, HLEN.out]
  have new0 := heap_alloc_new W0 (.cells #[.int .u32 7, .slice (some ⟨w.heap.size + 1, 0, none⟩) 2 2] 43)
  rw [HSZ.out] at new0
  have old1 := stays new0 hb1
  have t0' := t0.alloc t0.size (.cells #[.int .u32 7, .slice (some ⟨w.heap.size + 1, 0, none⟩) 2 2] 43)
  have t1 := t0'.trans (hb1.mono t0'.size)
  have hk1 := (hk.alloc (.cells #[.int .u32 7, .slice (some ⟨w.heap.size + 1, 0, none⟩) 2 2] 43)).below hb1
  go_wp2_with fail
  refine (pkrd_any A1 24 c1 bts w1 hB1.rd hB1.2.1 (by have := hB1.2.2.1; unfold maxLen at this; omega) (by omega)).mono ?_
  rintro e w2 ⟨A2, n2, c2, ps, rfl, hown, hps, hbod, hb2⟩
  rw [HGOOD.out.2.1] at hps
  rw [HGOOD.out.1, HGOOD.out.2.2]
  obtain ⟨hn2, hck2⟩ := hown.cks hbod.ok
  rw [hps] at hck2
  have hn22 : n2 = 2 := by
    have := hck2.len
    rw [hn2, ← this]
    rfl
  subst hn22
  rw [← hn2] at hck2
  clear hps hn2 hown hbod
  have old2 := stays old1 hb2
  have t2 := t1.trans (hb2.mono t1.size)
  have t2' := t2.alloc t2.size (.cells #[.int .u32 7, .slice A2 2 c2] 43)
  have hl2 := lt_of_block old2
  have q2 := fun o i => cell_of_row (w2.alloc o) (w.heap.size + 1 + 1) i _ 43 (0, 0) ((Below.heap_alloc w2 o _ hl2).trans old2)
  go_wp2_with fail
  have hk2 := (hk1.below hb2).alloc (.cells #[.int .u32 7, .slice A2 2 c2] 43)
  refine (same10_any 7 _ _ 2 2 c2 wkC _ hk2 (hck2.alloc _) (by omega) (by decide)).mono ?_
  rintro e w3 ⟨rfl, hb3⟩
  have t3 := t2'.trans (hb3.mono t2'.size)
  have old3 := stays ((Below.heap_alloc w2 (.cells #[.int .u32 7, .slice A2 2 c2] 43) _ hl2).trans old2) hb3
  clear q2
  have q3 := fun i => cell_of_row w3 (w.heap.size + 1 + 1) i _ 43 (0, 0) old3
  go_wp2_with fail
  refine (size10_any 7 _ 2 2 wkC _ (hk2.below hb3) (by omega) (by decide)).mono ?_
  rintro e w4 ⟨rfl, hb4⟩
  rw [wk_size]
  have t4 := t3.trans (hb4.mono t3.size)
  have hB4 := (((hB1.below hb2).alloc (.cells #[.int .u32 7, .slice A2 2 c2] 43)).below hb3).below hb4
  obtain ⟨g, rfl, hg, hcell, hfr, hB5⟩ := hB4.set_ 4 1 (by omega)
  rw [HGB.out] at hcell
  clear q3
  have hx1 : bits .xor .u8 0 1 = 1 := by decide
  have hg' : w.heap.size ≤ g := by have := t0'.size; simp at hg this; omega
  have t5 := t4.setCell (p := ⟨g, 4, none⟩) hg' (.int .u8 1)
  go_wp2_with fail
  have hB6 : Bo (w4.setCell ⟨g, 4, none⟩ (.int .u8 1)) _ (some ⟨g, 0, none⟩) 24 c1 (bts.set 4 1) := hB5
  refine (pkrd_any _ 24 c1 (bts.set 4 1) _ hB6.rd hB6.2.1 (by have := hB6.2.2.1; unfold maxLen at this; omega) (by omega)).mono ?_
  rintro e w5 ⟨A5, n5, c5, ps5, rfl, _, _, _, hb5⟩
  rw [HBAD.out]
  have t6 := t5.trans (hb5.mono t5.size)
  go_wp2
  go_ret
  exact ⟨rfl, t6⟩
end Go.Proofs.Ythndlhflkbidiaa
