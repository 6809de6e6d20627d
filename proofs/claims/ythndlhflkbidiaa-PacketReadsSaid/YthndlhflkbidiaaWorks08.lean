/- works of the chunks' layer. -/
import Derived.Test.YthndlhflkbidiaaChk
namespace Go.Proofs.Ythndlhflkbidiaa
open Go.RowKit

theorem ck8_ok : ckOk (ckB 10 0 [170]) = true := by decide
theorem ck8_len : ckLen (ckB 10 0 [170]) = 5 := by decide
theorem ck8_body : ((ckB 10 0 [170]).drop 4).take (5 - 4) = [170] := by decide
theorem nil_bad : ckOk [] = false := by decide

theorem works08_any (w : World) : Calls Try.prog 48 #[] w fun e w' => e = .returned (.bool true) ∧ Below w.heap.size w w' := by
  go_enter Try.func48, Try.ntmps48
  go_wp2_with fail
  refine (ckw_any 10 0 _ 1 _ [170] _ (by decide) (by decide) (rd_one w 170 (by decide) (by decide)) (by decide)).mono ?_
  rintro e w1 ⟨A1, c1, rfl, hB1, hb1⟩
  go_wp2_with fail
  refine (read_any _ _ _ _ _ hB1.rd hB1.2.1 (by have := hB1.2.2.1; unfold maxLen at this; omega) (by decide)).mono ?_
  rintro e w2 h2
  unfold RdOut at h2
  rw [ck8_ok] at h2
  unfold RdGood at h2
  rw [ck8_len] at h2
  simp only [if_true] at h2
  obtain ⟨A2, c2, rfl, hB2, hb2⟩ := h2
  rw [ck8_body] at hB2
  rw [show up 5 = 8 from rfl, show gb (ckB 10 0 [170]) 0 = 10 by decide, show gb (ckB 10 0 [170]) 1 = 0 by decide, show 5 - 4 = 1 from rfl]
  rw [show 5 - 4 = 1 from rfl] at hB2
  go_wp2_with fail
  refine (read_any none 0 0 [] _ (Rd.nil _ _) (by omega) (by omega) (by omega)).mono ?_
  rintro e w3 h3
  unfold RdOut at h3
  rw [nil_bad] at h3
  obtain ⟨rfl, hb3⟩ := h3
  have qb := (hb3.block w2.heap.size (by simp)).trans (heap_alloc_new w2 _)
  have lt3 := lt_of_block qb
  have qa := fun o i => cell_of_row (w3.alloc o) w2.heap.size i _ 45 (0, 0) ((Below.heap_alloc w3 o _ lt3).trans qb)
  have B3 := ((hB2.alloc (.cells #[.int .u8 10, .int .u8 0, .slice A2 1 c2] 45)).below hb3).alloc (.cells #[.int .u8 0, .int .u8 0, .slice none 0 0] 45)
  obtain ⟨g2, o2, rfl, kc⟩ := B3.rd.at_ (k := 0) (by decide)
  rw [show gb [170] 0 = 170 from rfl] at kc
  simp only [Nat.add_zero] at kc
  have t1 : Below w.heap.size w w1 := ((Below.refl _ _).alloc (Nat.le_refl _) _).trans (hb1.mono (by simp))
  have t2 := t1.trans (hb2.mono t1.size)
  have t3 := (t2.alloc t2.size (.cells #[.int .u8 10, .int .u8 0, .slice (some ⟨g2, o2, none⟩) 1 c2] 45)).trans (hb3.mono (by have := t2.size; simp; omega))
  have HT := Lib.hid (t3.alloc t3.size (.cells #[.int .u8 0, .int .u8 0, .slice none 0 0] 45))
  clear t1 t2 t3 hb1 hb2 hb3 qb
  go_wp2
  go_ret
  exact ⟨rfl, HT.out⟩
end Go.Proofs.Ythndlhflkbidiaa
