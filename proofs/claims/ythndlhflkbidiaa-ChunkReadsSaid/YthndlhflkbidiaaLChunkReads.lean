/-
  chunk.Read tells the chunk with which any bytes begin, and how many bytes it has, as the document says it, in new memory, or that there is none; the bytes stay. For every slice of bytes. No condition.
-/
import Derived.Test.YthndlhflkbidiaaChkA
import Derived.Test.YthndlhflkbidiaaOpen
namespace Go.Proofs.Ythndlhflkbidiaa.chunkReads
open Go.Proofs.Ythndlhflkbidiaa
open Go.ChangeShapes Go.WideShapes Go.ChangeAt Go.RowKit

theorem walk_big (A : Option Addr) (n c : Nat) (w : World) (h : (131072 : Int) < (n : Int)) :
    Calls Try.prog 14 #[.slice A n c] w fun e w' => e = .returned (.bool true) ∧ Below w.heap.size w w' := by
  go_enter Try.func14, Try.ntmps14
  go_wp2_with (go_at_call 48; refine (works08_any _).mono ?_; rintro e w1 ⟨rfl, hb⟩)
  go_ret
  exact ⟨rfl, hb⟩

/-- The rest of the law's last test, whatever has been read. -/
theorem walk_go (A : Option Addr) (n c : Nat) (xs : List UInt8) (w : World) (hx : Rd w A n xs) (hnc : n ≤ c) (hc : c ≤ 9223372036854775807) (h : (n : Int) ≤ 131072) :
    Calls Try.prog 14 #[.slice A n c] w fun e w' => e = .returned (.bool true) ∧ Below w.heap.size w w' := by
  have hln := Lib.hid hx.len
  go_enter Try.func14, Try.ntmps14
  go_wp2_with fail
  refine (roomy_any A n c xs _ hx (by omega)).mono ?_
  rintro e w1 ⟨rfl, hB, hb1⟩
  have hin : Rd w1 (some ⟨w.heap.size, 0, none⟩) n xs := (Blk.bo (base := 0) hB (by omega) hx.len rfl (by simp [marks, maxLen]; omega)).rd
  have hg := hB.lt
  go_wp2_with fail
  refine (read_any _ n (n + 16) xs w1 hin (by omega) (by omega) (by omega)).mono ?_
  rintro e w2 h2
  unfold RdOut at h2
  by_cases hok : ckOk xs = true
  · rw [if_pos hok] at h2
    unfold RdGood at h2
    obtain ⟨A2, c2, rfl, hB2, hb2⟩ := h2
    have t2 := hb1.trans (hb2.mono hb1.size)
    go_wp2_with fail
    refine (rdR_any A n c xs _ ((hx.below t2).alloc _) hnc hc (by omega)).mono ?_
    rintro e w3 h3
    unfold RdOut at h3
    rw [if_pos hok] at h3
    unfold RdGood at h3
    obtain ⟨A3, c3, rfl, hB3, hb3⟩ := h3
    have s2 := hb2.size
    have qb := (hb3.block w2.heap.size (by simp)).trans (heap_alloc_new w2 _)
    have lt3 := lt_of_block qb
    have qa := fun o i => cell_of_row (w3.alloc o) w2.heap.size i _ 45 (0, 0) ((Below.heap_alloc w3 o _ lt3).trans qb)
    have HT := Lib.hid (show eqB ((xs.drop 4).take (ckLen xs - 4)) ((xs.drop 4).take (ckLen xs - 4)) = true by simp [eqB])
    have hB2' := (hB2.alloc (.cells #[.int .u8 (gb xs 0 : Int), .int .u8 (gb xs 1 : Int), .slice A2 (ckLen xs - 4) c2] 45)).below hb3
    have hL := ckLen_lt xs
    go_wp2_with fail
    refine (same_any _ _ _ _ _ _ _ _ _ _ _ _ _ (hB2'.alloc _).rd (hB3.alloc _).rd (by omega)).mono ?_
    rintro e w4 ⟨rfl, hb4⟩
    rw [HT.out, show ((gb xs 0 : Int) == (gb xs 0 : Int)) = true by simp, show ((gb xs 1 : Int) == (gb xs 1 : Int)) = true by simp]
    have s3 := hb3.size
    simp only [World.size_alloc] at s3
    have t3 := (t2.alloc t2.size (.cells #[.int .u8 (gb xs 0 : Int), .int .u8 (gb xs 1 : Int), .slice A2 (ckLen xs - 4) c2] 45)).trans (hb3.mono (by have := t2.size; simp; omega))
    have t4 := (t3.alloc t3.size (.cells #[.int .u8 (gb xs 0 : Int), .int .u8 (gb xs 1 : Int), .slice A3 (ckLen xs - 4) c3] 45)).trans (hb4.mono (by have := t3.size; simp; omega))
    have hB4 := (hB2'.alloc (.cells #[.int .u8 (gb xs 0 : Int), .int .u8 (gb xs 1 : Int), .slice A3 (ckLen xs - 4) c3] 45)).below hb4
    have hx4 := hx.below t4
    have hK4 : Blk w4 w.heap.size (xs ++ marks) := ((((hB.after hb2).alloc (.cells #[.int .u8 (gb xs 0 : Int), .int .u8 (gb xs 1 : Int), .slice A2 (ckLen xs - 4) c2] 45)).after hb3).alloc (.cells #[.int .u8 (gb xs 0 : Int), .int .u8 (gb xs 1 : Int), .slice A3 (ckLen xs - 4) c3] 45)).after hb4
    have q4 := stays ((Below.heap_alloc w3 (.cells #[.int .u8 (gb xs 0 : Int), .int .u8 (gb xs 1 : Int), .slice A3 (ckLen xs - 4) c3] 45) _ lt3).trans qb) hb4
    clear qa hb4
    go_wp2_with fail
    refine (kept_any w.heap.size n A c xs _ hK4 hx4 (by omega)).mono ?_
    rintro e w' ⟨rfl, q, rfl⟩
    have qa := fun i => cell_of_row (w4.drewN q) w2.heap.size i _ 45 (0, 0) q4
    go_wp2_with fail
    refine (apart2 (w1 := w4.drewN q) (hB4.drewN q) (hK4.drewN q) (by simp [marks, hln.out]) (by omega) hg).mono ?_
    rintro e w8 ⟨rfl, hb8⟩
    go_wp2_with fail
    refine (works08_any _).mono ?_
    rintro e w9 ⟨rfl, hb9⟩
    go_wp2
    go_ret
    have t5 : Below w.heap.size w w8 := (below_drewN t4 q).trans (hb8.mono t4.size)
    exact ⟨rfl, t5.trans (hb9.mono t5.size)⟩
  · rw [if_neg hok] at h2
    obtain ⟨rfl, hb2⟩ := h2
    have t2 := hb1.trans (hb2.mono hb1.size)
    go_wp2_with fail
    refine (rdR_any A n c xs _ ((hx.below t2).alloc _) hnc hc (by omega)).mono ?_
    rintro e w3 h3
    unfold RdOut at h3
    rw [if_neg hok] at h3
    obtain ⟨rfl, hb3⟩ := h3
    have qb := (hb3.block w2.heap.size (by simp)).trans (heap_alloc_new w2 _)
    have lt3 := lt_of_block qb
    have qa := fun o i => cell_of_row (w3.alloc o) w2.heap.size i _ 45 (0, 0) ((Below.heap_alloc w3 o _ lt3).trans qb)
    go_wp2_with fail
    refine (same_any _ _ _ _ none none 0 0 _ _ [] [] _ (Rd.nil _ _) (Rd.nil _ _) (by omega)).mono ?_
    rintro e w4 ⟨rfl, hb4⟩
    rw [show ((0 : Int) == 0 && (0 : Int) == 0 && eqB [] []) = true from by decide]
    have t3 := (t2.alloc t2.size (.cells #[.int .u8 0, .int .u8 0, .slice none 0 0] 45)).trans (hb3.mono (by have := t2.size; simp; omega))
    have t4 := (t3.alloc t3.size (.cells #[.int .u8 0, .int .u8 0, .slice none 0 0] 45)).trans (hb4.mono (by have := t3.size; simp; omega))
    have hx4 := hx.below t4
    have hK4 : Blk w4 w.heap.size (xs ++ marks) := ((((hB.after hb2).alloc (.cells #[.int .u8 0, .int .u8 0, .slice none 0 0] 45)).after hb3).alloc (.cells #[.int .u8 0, .int .u8 0, .slice none 0 0] 45)).after hb4
    have q4 := stays ((Below.heap_alloc w3 (.cells #[.int .u8 0, .int .u8 0, .slice none 0 0] 45) _ lt3).trans qb) hb4
    clear qa hb4
    go_wp2_with fail
    refine (kept_any w.heap.size n A c xs _ hK4 hx4 (by omega)).mono ?_
    rintro e w' ⟨rfl, q, rfl⟩
    have qa := fun i => cell_of_row (w4.drewN q) w2.heap.size i _ 45 (0, 0) q4
    go_wp2_with fail
    refine (apart2 (w1 := w4.drewN q) (Bo.nil _ w1.heap.size none) (hK4.drewN q) (by simp [marks, hln.out]) (by omega) hg).mono ?_
    rintro e w8 ⟨rfl, hb8⟩
    go_wp2_with fail
    refine (works08_any _).mono ?_
    rintro e w9 ⟨rfl, hb9⟩
    go_wp2
    go_ret
    have t5 : Below w.heap.size w w8 := (below_drewN t4 q).trans (hb8.mono t4.size)
    exact ⟨rfl, t5.trans (hb9.mono t5.size)⟩

theorem walk (A : Option Addr) (n c : Nat) (xs : List UInt8) (w : World) (hx : Rd w A n xs) (hn : n ≤ c) (hc : c ≤ 9223372036854775807) :
    Calls Try.prog 14 #[.slice A n c] w fun e w' => e = .returned (.bool true) ∧ Below w.heap.size w w' := by
  by_cases h : (131072 : Int) < (n : Int)
  · exact walk_big A n c w h
  · exact walk_go A n c xs w hx hn hc (by omega)

set_option maxRecDepth 100000 in
theorem lifted (os : Os) (started : os.Started) (H : Type) (enc : TypeId × Value → H) :
    ReturnsInHanded {} Try.checked os 14 .any (Rows.chunkReadsSpec.pre6 enc Try.prog Try.f14 Rows.chunkReadsRow.domain false) (Rows.chunkReadsSpec.post enc Try.prog Try.f14 false true false false) := by
  refine returnsInHanded_of_change (C := Try.checked) own started (by kernel_rfl) Try.func14
    (ChangeSpec.witness6 (enc := enc) (C := Try.checked) false ⟨#[], #[.slice none 0 0], []⟩ 8 (by kernel_rfl) (by kernel_rfl) (by kernel_rfl) (by kernel_rfl)) ?_
  intro W base args ds gs before hval0 hW _ _
  have hval : ∀ (j : Nat) t v, Try.f14.params[j]? = some t → args[j]? = some v → Value.okWide Try.prog W .any base t v := hval0
  have hW' := hW
  obtain ⟨p, q, hA0, hV, rfl, _, _⟩ := hW
  have hA : DataW.TrodAll enc Try.prog W 0 (fun _ => true) true Try.f14.params.toList args.toList ds p := hA0
  have hA1 := hA
  rw [Try.params14] at hA hval
  obtain ⟨v0, vs0, d0, ds0, p0, q0, hargs, rfl, rfl, h0, r0⟩ := trodAll_cons hA
  obtain ⟨rfl, rfl, rfl⟩ := trodAll_nil r0
  obtain rfl : args = #[v0] := by cases args; simp_all
  obtain ⟨rfl, rfl⟩ := trodVars_none hV
  obtain ⟨A0, n0, c0, xs0, rfl, hx0, hn0, hc0⟩ := bytes_of (hval 0 22 v0 rfl rfl) h0
  clear hA0 hval0
  simp only [List.append_nil] at hW' hA1
  refine (walk A0 n0 c0 xs0 W hx0 hn0 hc0).mono fun e W' ⟨he, bel⟩ => ?_
  subst he
  exact ⟨_, rfl, post_law (by kernel_rfl) rfl rfl (by rw [Try.params14]; intro t ht; simp at ht; subst ht; exact ⟨by kernel_rfl, of_decide_eq_true (by kernel_rfl)⟩) hW' hA1 bel⟩

theorem closed : joinedFacts Try.prog 14 Try.f14 Rows.chunkReadsSpec Rows.chunkReadsRow = true :=
  closed_of (by kernel_rfl) laidOut mapsRowed0 (by kernel_rfl) (by kernel_rfl) (by kernel_rfl) stops0 (by kernel_rfl) knobs0 (by kernel_rfl) (by kernel_rfl) (by kernel_rfl) (by kernel_rfl) (by kernel_rfl) (by kernel_rfl) (by kernel_rfl)
    (by kernel_rfl) (by kernel_rfl) (by kernel_rfl) (by kernel_rfl) (by kernel_rfl) (by kernel_rfl) (by kernel_rfl) (by kernel_rfl) heard0 enter0 final0 rfl make0 rfl rfl rfl (by kernel_rfl) (by kernel_rfl) (by kernel_rfl)
theorem named : Try.prog.funcNamed Rows.chunkReadsRow.func = some 14 := by kernel_rfl
theorem inst : Try.f14.isInstance Try.prog Rows.chunkReadsRow.origin Rows.chunkReadsRow.targs := of_decide_eq_true (by kernel_rfl)
theorem wrap : Try.f14.isWrapper Try.prog Rows.chunkReadsRow.wrapper Rows.chunkReadsRow.mainSum := by
  unfold Func.isWrapper
  rw [if_neg (by decide +kernel)]
  exact ⟨rfl, rfl⟩
theorem over : Rows.chunkReadsRow.holds Try.pinned (OpenSpec.ofChange Rows.chunkReadsSpec) :=
  OpenClaim.holds_of_wide 14 Try.f14 rfl rfl rfl rfl rfl rfl rfl ⟨rfl, rfl, rfl, rfl, rfl⟩ rfl rfl rfl rfl rfl named Try.func14 closed inst wrap
    (fun os started H enc _ => lifted os started H enc)

/-- The statement. -/
theorem proved : Rows.ChunkReadsSaid := over
#print axioms proved
end Go.Proofs.Ythndlhflkbidiaa.chunkReads
