/-
  chunk.Write answers the bytes of any chunk as the document says them, in new memory, or none if its body is too long; the chunk stays, and two calls' answers and the chunk's body share no memory. For every chunk. No condition.
-/
import Derived.Test.YthndlhflkbidiaaWorks08
import Derived.Test.YthndlhflkbidiaaOpenC
import Derived.Test.YthndlhflkbidiaaApart
import Derived.Test.YthndlhflkbidiaaChk
import Derived.Deep.DeepCutAuto
import Derived.Deep.RegionHeld3
namespace Go.Proofs.Ythndlhflkbidiaa.chunkWrites
open Go.Proofs.Ythndlhflkbidiaa
open Go.ChangeShapes Go.WideShapes Go.ChangeAt Go.RowKit

theorem walk_big (k f : Int) (A : Option Addr) (n c : Nat) (w : World) (hc : (n : Int) ≤ 9223372036854775807) (h : 131072 < n) :
    Calls Try.prog 13 #[.agg #[.int .u8 k, .int .u8 f, .slice A n c]] w fun e w' => e = .returned (.bool true) ∧ Below w.heap.size w w' := by
  go_enter Try.func13, Try.ntmps13
  go_wp2_with fail
  refine (large_any _ _ _ _ _ _ hc).mono ?_
  rintro e w1 ⟨rfl, hb1⟩
  rw [decide_eq_true h]
  go_wp2_with (go_at_call 48; refine (works08_any _).mono ?_; rintro e w2 ⟨rfl, hb2⟩)
  go_ret
  have t1 : Below w.heap.size w w1 := ((Below.refl _ _).alloc (Nat.le_refl _) _).trans (hb1.mono (by simp))
  exact ⟨rfl, t1.trans (hb2.mono t1.size)⟩

/-- What the copy of the chunk is: its own block, its own body. -/
structure In (w wx : World) (k f : Nat) (A : Option Addr) (n c : Nat) (xs : List UInt8) (g gi : Nat) : Prop where
  below : Below w.heap.size w wx
  old : wx.heap[w.heap.size]? = some (.cells #[.int .u8 (k : Int), .int .u8 (f : Int), .slice A n c] 45 (0, 0))
  row : wx.heap[g]? = some (.cells #[.int .u8 (k : Int), .int .u8 (f : Int), .slice (some ⟨gi, 0, none⟩) n (n + 16)] 45 (0, 0))
  blk : Blk wx gi (xs ++ marks)
theorem In.next {w wx w1 : World} {k f : Nat} {A : Option Addr} {n c : Nat} {xs : List UInt8} {g gi : Nat} (h : In w wx k f A n c xs g gi) (hb : Below wx.heap.size wx w1) : In w w1 k f A n c xs g gi :=
  ⟨h.below.trans (hb.mono h.below.size), stays h.old hb, stays h.row hb, h.blk.after hb⟩
theorem In.rd {w wx : World} {k f : Nat} {A : Option Addr} {n c : Nat} {xs : List UInt8} {g gi : Nat} (h : In w wx k f A n c xs g gi) (hl : xs.length = n) (hn : n ≤ 140737488350000) : Rd wx (some ⟨gi, 0, none⟩) n xs :=
  (Blk.bo (base := 0) h.blk (by omega) hl rfl (by simp [marks, maxLen]; omega)).rd

theorem In.of1 {w w2 : World} {k f : Nat} {A : Option Addr} {n c : Nat} {xs : List UInt8} {gi : Nat} (t2 : Below w.heap.size w w2) (old2 : w2.heap[w.heap.size]? = some (.cells #[.int .u8 (k : Int), .int .u8 (f : Int), .slice A n c] 45 (0, 0))) (hB : Blk w2 gi (xs ++ marks)) :
    In w (w2.alloc (.cells #[.int .u8 (k : Int), .int .u8 (f : Int), .slice (some ⟨gi, 0, none⟩) n (n + 16)] 45)) k f A n c xs w2.heap.size gi :=
  ⟨t2.alloc t2.size _, (Below.heap_alloc _ _ _ (lt_of_block old2)).trans old2, heap_alloc_new w2 _, hB.alloc _⟩
theorem In.of2 {w w2 : World} {k f : Nat} {A : Option Addr} {n c : Nat} {xs : List UInt8} {g gi : Nat} {x y z : Value} (t2 : Below w.heap.size w w2) (old2 : w2.heap[w.heap.size]? = some (.cells #[.int .u8 (k : Int), .int .u8 (f : Int), .slice A n c] 45 (0, 0))) (hB : Blk w2 gi (xs ++ marks))
    (qb : w2.heap[g]? = some (.cells #[x, y, z] 45 (0, 0))) (hg : w.heap.size < g) (hgi : gi ≠ g) :
    In w (((w2.setCell ⟨g, 0, none⟩ (.int .u8 (k : Int))).setCell ⟨g, 1, none⟩ (.int .u8 (f : Int))).setCell ⟨g, 2, none⟩ (.slice (some ⟨gi, 0, none⟩) n (n + 16))) k f A n c xs g gi := by
  have far : ∀ b, b ≠ g → (((w2.setCell ⟨g, 0, none⟩ (.int .u8 (k : Int))).setCell ⟨g, 1, none⟩ (.int .u8 (f : Int))).setCell ⟨g, 2, none⟩ (.slice (some ⟨gi, 0, none⟩) n (n + 16))).heap[b]? = w2.heap[b]? := fun b hb => by
    rw [Below.heap_setCell _ _ _ _ hb, Below.heap_setCell _ _ _ _ hb, Below.heap_setCell _ _ _ _ hb]
  have hg' := Nat.le_of_lt hg
  exact ⟨((t2.setCell (p := ⟨g, 0, none⟩) hg' _).setCell (p := ⟨g, 1, none⟩) hg' _).setCell (p := ⟨g, 2, none⟩) hg' _, (far _ (by omega)).trans old2, out3 qb, (far _ hgi).trans hB⟩

set_option maxHeartbeats 1600000 in
theorem walk_go (k f : Nat) (A : Option Addr) (n c : Nat) (xs : List UInt8) (w : World) (hk : k < 256) (hf : f < 256) (hx : Rd w A n xs) (h : n ≤ 131072) :
    Calls Try.prog 13 #[.agg #[.int .u8 (k : Int), .int .u8 (f : Int), .slice A n c]] w fun e w' => e = .returned (.bool true) ∧ Below w.heap.size w w' := by
  have HT := Lib.hid (show eqB (wrB k f xs) (wrB k f xs) = true by simp [eqB])
  have hln := Lib.hid hx.len
  have hwl := wrN_le n
  go_enter Try.func13, Try.ntmps13
  go_wp2_with fail
  refine (large_any _ _ _ _ _ _ (by omega)).mono ?_
  rintro e w1 ⟨rfl, hb1⟩
  rw [decide_eq_false (by omega : ¬ 131072 < n)]
  have old1 := stays (heap_alloc_new w _) hb1
  have t1 : Below w.heap.size w w1 := ((Below.refl _ _).alloc (Nat.le_refl _) _).trans (hb1.mono (by simp))
  have q1 := fun i => cell_of_row w1 w.heap.size i _ 45 (0, 0) old1
  have l1 := lt_of_block old1
  go_upto_region 3 with fail
  go_cut [3] (fun x wx => ∃ g gi, x = .pointer (some ⟨g, 0, none⟩) ∧ In w wx k f A n c xs g gi)
  case first =>
    have hx1 := hx.below t1
    have hx1d : Rd w1.drew A n xs := hx1
    have a1 := fun o i => cell_of_row (w1.drew.alloc o) w.heap.size i _ 45 (0, 0) ((Below.heap_alloc w1.drew o _ l1).trans old1)
    have s0 : w1.cell? ⟨w.heap.size, 0, none⟩ = some (.int .u8 (k : Int)) := (q1 0).trans rfl
    have s1 : w1.cell? ⟨w.heap.size, 1, none⟩ = some (.int .u8 (f : Int)) := (q1 1).trans rfl
    have s2 : w1.cell? ⟨w.heap.size, 2, none⟩ = some (.slice A n c) := (q1 2).trans rfl
    have ne1 : w1.heap.size ≠ w.heap.size := Nat.ne_of_gt l1
    clear a1 q1
    go_region_held3 (fun w' => w'.cell? ⟨w.heap.size, 0, none⟩ = some (.int .u8 (k : Int)) ∧ w'.cell? ⟨w.heap.size, 1, none⟩ = some (.int .u8 (f : Int)) ∧ w'.cell? ⟨w.heap.size, 2, none⟩ = some (.slice A n c))
      (first | go_keep | (go_show; fail))
      (first
        | (go_at_call 27; refine (roomy_any A n c xs _ (by first | exact hx1d | exact hx1d.alloc _ | exact hx1 | exact hx1.alloc _) (by omega)).mono ?_; rintro e w2 ⟨rfl, hB2, hb2⟩; have old2 := (by first | exact stays (a := w1.drew) old1 hb2 | exact stays ((Below.heap_alloc w1.drew _ _ l1).trans old1) hb2 : w2.heap[w.heap.size]? = some (.cells #[.int .u8 (k : Int), .int .u8 (f : Int), .slice A n c] 45 (0, 0))); have q2 := fun i => cell_of_row w2 w.heap.size i _ 45 (0, 0) old2; have l2 := lt_of_block old2; have ne2 : w2.heap.size ≠ w.heap.size := Nat.ne_of_gt l2; have q3 := fun o i => cell_of_row (w2.alloc o) w.heap.size i _ 45 (0, 0) ((Below.heap_alloc w2 o _ l2).trans old2); try (have qb := (hb2.block w1.heap.size (by simp)).trans (heap_alloc_new _ _); have q8 := fun i => cell_of_row w2 _ i _ 45 (0, 0) qb; have f8 := fun i => frozen_of_row w2 _ i _ 45 qb)))
    · go_wp2_with fail
      go_meet
      exact ⟨_, _, rfl, In.of1 (t1.drew.trans (hb2.mono t1.size)) old2 hB2⟩
    · go_wp2_with fail
      go_meet
      exact ⟨_, _, rfl, In.of2 ((t1.drew.alloc t1.size _).trans (hb2.mono (by have := t1.size; simp; omega))) old2 (by simpa using hB2) qb l1 (by simp)⟩
  case rest =>
   obtain ⟨g, gi, rfl, hI⟩ := hcut
   have p0 := fun i => cell_of_row wc g i _ 45 (0, 0) hI.row
   have r0 := fun i => cell_of_row wc w.heap.size i _ 45 (0, 0) hI.old
   have hin := hI.rd hln.out (by omega)
   go_wp2_with fail
   refine (ckw_all k f _ n _ xs _ hk hf hin).mono ?_
   rintro e w2 ⟨A2, c2, rfl, hB2, hb2⟩
   have hI2 := hI.next hb2
   clear p0 r0
   have p2 := fun i => cell_of_row w2 g i _ 45 (0, 0) hI2.row
   have r2 := fun i => cell_of_row w2 w.heap.size i _ 45 (0, 0) hI2.old
   have hx2 := hx.below hI2.below
   go_wp2_with fail
   refine (ckwR_all k f _ n _ xs _ hk hf hx2).mono ?_
   rintro e w3 ⟨A3, c3, rfl, hB3, hb3⟩
   have hI3 := hI2.next hb3
   clear p2 r2
   have p3 := fun i => cell_of_row w3 g i _ 45 (0, 0) hI3.row
   have r3 := fun i => cell_of_row w3 w.heap.size i _ 45 (0, 0) hI3.old
   have hx3 := hx2.below hb3
   go_wp2_with fail
   refine (eq_any _ _ _ _ _ _ _ _ _ (hB2.below hb3).rd hB3.rd (by omega)).mono ?_
   rintro e w' ⟨rfl, q, rfl⟩
   rw [HT.out]
   have p4 := fun i => cell_of_row (w3.drewN q) g i _ 45 (0, 0) hI3.row
   have r4 := fun i => cell_of_row (w3.drewN q) w.heap.size i _ 45 (0, 0) hI3.old
   clear p3 r3
   go_wp2_with fail
   refine (kept_any gi n A c xs _ (hI3.blk.drewN _) (hx3.drewN _) (by omega)).mono ?_
   rintro e w' ⟨rfl, q2, rfl⟩
   have p5 := fun i => cell_of_row (w3.drewN (q + q2)) g i _ 45 (0, 0) hI3.row
   clear p4 r4
   have b3 : Below w2.heap.size w2 (w3.drewN (q + q2)) := below_drewN hb3 _
   have hI5 := hI2.next b3
   go_wp2_with fail
   refine (ckw_all k f _ n _ xs _ hk hf (hI5.rd hln.out (by omega))).mono ?_
   rintro e w5 ⟨A5, c5, rfl, hB5, hb5⟩
   have hI6 := hI5.next hb5
   clear p5
   have p6 := fun i => cell_of_row w5 g i _ 45 (0, 0) hI6.row
   have s2 := hb2.size
   have s3 := b3.size
   go_wp2_with fail
   refine (apart3 (w0 := wc) (w2 := w5) hB2 (hB5.mono s3) hI.blk (by simp [marks, hln.out]) (by omega) hb2 (b3.trans (hb5.mono s3))).mono ?_
   rintro e w8 ⟨rfl, hb8⟩
   go_wp2_with fail
   refine (works08_any _).mono ?_
   rintro e w9 ⟨rfl, hb9⟩
   go_wp2
   go_ret
   have t5 : Below w.heap.size w w8 := hI6.below.trans (hb8.mono hI6.below.size)
   exact ⟨rfl, t5.trans (hb9.mono t5.size)⟩

theorem walk (k f : Nat) (A : Option Addr) (n c : Nat) (xs : List UInt8) (w : World) (hk : k < 256) (hf : f < 256) (hx : Rd w A n xs) (hn : n ≤ c) (hc : c ≤ 9223372036854775807) :
    Calls Try.prog 13 #[.agg #[.int .u8 (k : Int), .int .u8 (f : Int), .slice A n c]] w fun e w' => e = .returned (.bool true) ∧ Below w.heap.size w w' := by
  by_cases h : 131072 < n
  · exact walk_big k f A n c w (by omega) h
  · exact walk_go k f A n c xs w hk hf hx (by omega)

set_option maxRecDepth 100000 in
theorem lifted (os : Os) (started : os.Started) (H : Type) (enc : TypeId × Value → H) :
    ReturnsInHanded {} Try.checked os 13 .any (Rows.chunkWritesSpec.pre6 enc Try.prog Try.f13 Rows.chunkWritesRow.domain false) (Rows.chunkWritesSpec.post enc Try.prog Try.f13 false true false false) := by
  refine returnsInHanded_of_change (C := Try.checked) own started (by kernel_rfl) Try.func13
    (ChangeSpec.witness6 (enc := enc) (C := Try.checked) false ⟨#[], #[.agg #[.int .u8 0, .int .u8 0, .slice none 0 0]], []⟩ 8 (by kernel_rfl) (by kernel_rfl) (by kernel_rfl) (by kernel_rfl)) ?_
  intro W base args ds gs before hval0 hW _ _
  have hval : ∀ (j : Nat) t v, Try.f13.params[j]? = some t → args[j]? = some v → Value.okWide Try.prog W .any base t v := hval0
  have hW' := hW
  obtain ⟨p, q, hA0, hV, rfl, _, _⟩ := hW
  have hA : DataW.TrodAll enc Try.prog W 0 (fun _ => true) true Try.f13.params.toList args.toList ds p := hA0
  have hA1 := hA
  rw [Try.params13] at hA hval
  obtain ⟨v0, vs0, d0, ds0, p0, q0, hargs, rfl, rfl, h0, r0⟩ := trodAll_cons hA
  obtain ⟨rfl, rfl, rfl⟩ := trodAll_nil r0
  obtain rfl : args = #[v0] := by cases args; simp_all
  obtain ⟨rfl, rfl⟩ := trodVars_none hV
  obtain ⟨k0, f0, A0, n0, c0, xs0, rfl, hk0, hf0, hx0, hn0, hc0⟩ := chunk_of (hval 0 45 v0 rfl rfl) h0
  clear hA0 hval0
  simp only [List.append_nil] at hW' hA1
  refine (walk k0 f0 A0 n0 c0 xs0 W hk0 hf0 hx0 hn0 hc0).mono fun e W' ⟨he, bel⟩ => ?_
  subst he
  exact ⟨_, rfl, post_law (by kernel_rfl) rfl rfl (by rw [Try.params13]; intro t ht; simp at ht; subst ht; exact ⟨by kernel_rfl, of_decide_eq_true (by kernel_rfl)⟩) hW' hA1 bel⟩

theorem closed : joinedFacts Try.prog 13 Try.f13 Rows.chunkWritesSpec Rows.chunkWritesRow = true :=
  closed_of (by kernel_rfl) laidOut mapsRowed0 (by kernel_rfl) (by kernel_rfl) (by kernel_rfl) stops0 (by kernel_rfl) knobs0 (by kernel_rfl) (by kernel_rfl) (by kernel_rfl) (by kernel_rfl) (by kernel_rfl) (by kernel_rfl) (by kernel_rfl)
    (by kernel_rfl) (by kernel_rfl) (by kernel_rfl) (by kernel_rfl) (by kernel_rfl) (by kernel_rfl) (by kernel_rfl) (by kernel_rfl) heard0 enter0 final0 rfl make0 rfl rfl rfl (by kernel_rfl) (by kernel_rfl) (by kernel_rfl)
theorem named : Try.prog.funcNamed Rows.chunkWritesRow.func = some 13 := by kernel_rfl
theorem inst : Try.f13.isInstance Try.prog Rows.chunkWritesRow.origin Rows.chunkWritesRow.targs := of_decide_eq_true (by kernel_rfl)
theorem wrap : Try.f13.isWrapper Try.prog Rows.chunkWritesRow.wrapper Rows.chunkWritesRow.mainSum := by
  unfold Func.isWrapper
  rw [if_neg (by decide +kernel)]
  exact ⟨rfl, rfl⟩
theorem over : Rows.chunkWritesRow.holds Try.pinned (OpenSpec.ofChange Rows.chunkWritesSpec) :=
  OpenClaim.holds_of_wide 13 Try.f13 rfl rfl rfl rfl rfl rfl rfl ⟨rfl, rfl, rfl, rfl, rfl⟩ rfl rfl rfl rfl rfl named Try.func13 closed inst wrap
    (fun os started H enc _ => lifted os started H enc)

/-- The statement. -/
theorem proved : Rows.ChunkWritesSaid := over
#print axioms proved
end Go.Proofs.Ythndlhflkbidiaa.chunkWrites
