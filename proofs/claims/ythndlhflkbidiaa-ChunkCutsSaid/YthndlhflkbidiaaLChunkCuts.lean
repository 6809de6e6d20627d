/-
  a chunk that is cut anywhere is none: chunk.Read answers that its form is wrong, no bytes, and the chunk of nothing. For every chunk and every place. No condition.
-/
import Derived.Test.YthndlhflkbidiaaCkMore
import Derived.Test.YthndlhflkbidiaaOpenC
namespace Go.Proofs.Ythndlhflkbidiaa.chunkCuts
open Go.Proofs.Ythndlhflkbidiaa
open Go.ChangeShapes Go.WideShapes Go.ChangeAt Go.RowKit

theorem walk_big (k f : Int) (A : Option Addr) (n c : Nat) (cut : Int) (w : World) (hc : (n : Int) ≤ 9223372036854775807) (h : 131072 < n) :
    Calls Try.prog 17 #[.agg #[.int .u8 k, .int .u8 f, .slice A n c], .int .i64 cut] w fun e w' => e = .returned (.bool true) ∧ Below w.heap.size w w' := by
  go_enter Try.func17, Try.ntmps17
  go_wp2_with fail
  refine (large_any _ _ _ _ _ _ hc).mono ?_
  rintro e w1 ⟨rfl, hb1⟩
  rw [decide_eq_true h]
  go_wp2_with (go_at_call 48; refine (works08_any _).mono ?_; rintro e w2 ⟨rfl, hb2⟩)
  go_ret
  have t1 : Below w.heap.size w w1 := ((Below.refl _ _).alloc (Nat.le_refl _) _).trans (hb1.mono (by simp))
  exact ⟨rfl, t1.trans (hb2.mono t1.size)⟩

theorem walk_out (k f : Nat) (A : Option Addr) (n c : Nat) (xs : List UInt8) (cut : Int) (w : World) (hk : k < 256) (hf : f < 256) (hx : Rd w A n xs) (h : n ≤ 131072) (ho : cut < 0 ∨ (wrN n : Int) ≤ cut) :
    Calls Try.prog 17 #[.agg #[.int .u8 (k : Int), .int .u8 (f : Int), .slice A n c], .int .i64 cut] w fun e w' => e = .returned (.bool true) ∧ Below w.heap.size w w' := by
  by_cases h0 : cut < 0
  · go_enter Try.func17, Try.ntmps17
    go_wp2_with fail
    refine (large_any _ _ _ _ _ _ (by omega)).mono ?_
    rintro e w1 ⟨rfl, hb1⟩
    rw [decide_eq_false (by omega : ¬ 131072 < n)]
    have old1 := stays (heap_alloc_new w _) hb1
    have t1 : Below w.heap.size w w1 := ((Below.refl _ _).alloc (Nat.le_refl _) _).trans (hb1.mono (by simp))
    have q1 := fun i => cell_of_row w1 w.heap.size i _ 45 (0, 0) old1
    go_wp2_with fail
    refine (ckw_all k f _ n _ xs _ hk hf (hx.below t1)).mono ?_
    rintro e w2 ⟨A2, c2, rfl, hB2, hb2⟩
    go_wp2_with (go_at_call 48; refine (works08_any _).mono ?_; rintro e w3 ⟨rfl, hb3⟩)
    go_ret
    have t2 := t1.trans (hb2.mono t1.size)
    exact ⟨rfl, t2.trans (hb3.mono t2.size)⟩
  · have h1 : (wrN n : Int) ≤ cut := by omega
    clear ho
    go_enter Try.func17, Try.ntmps17
    go_wp2_with fail
    refine (large_any _ _ _ _ _ _ (by omega)).mono ?_
    rintro e w1 ⟨rfl, hb1⟩
    rw [decide_eq_false (by omega : ¬ 131072 < n)]
    have old1 := stays (heap_alloc_new w _) hb1
    have t1 : Below w.heap.size w w1 := ((Below.refl _ _).alloc (Nat.le_refl _) _).trans (hb1.mono (by simp))
    have q1 := fun i => cell_of_row w1 w.heap.size i _ 45 (0, 0) old1
    go_wp2_with fail
    refine (ckw_all k f _ n _ xs _ hk hf (hx.below t1)).mono ?_
    rintro e w2 ⟨A2, c2, rfl, hB2, hb2⟩
    go_wp2_with (go_at_call 48; refine (works08_any _).mono ?_; rintro e w3 ⟨rfl, hb3⟩)
    go_ret
    have t2 := t1.trans (hb2.mono t1.size)
    exact ⟨rfl, t2.trans (hb3.mono t2.size)⟩

theorem walk_go (k f : Nat) (A : Option Addr) (n c : Nat) (xs : List UInt8) (m : Nat) (w : World) (hk : k < 256) (hf : f < 256) (hx : Rd w A n xs) (h : n ≤ 131072) (hm : m < wrN n) :
    Calls Try.prog 17 #[.agg #[.int .u8 (k : Int), .int .u8 (f : Int), .slice A n c], .int .i64 (m : Int)] w fun e w' => e = .returned (.bool true) ∧ Below w.heap.size w w' := by
  have hno := Lib.hid (ck_cut k f xs m (by rw [hx.len]; exact hm))
  have hwl := wrN_le n
  have hm0 : ¬ ((m : Int) < 0) := by omega
  have hm1 : ¬ ((wrN n : Int) ≤ (m : Int)) := by omega
  go_enter Try.func17, Try.ntmps17
  go_wp2_with fail
  refine (large_any _ _ _ _ _ _ (by omega)).mono ?_
  rintro e w1 ⟨rfl, hb1⟩
  rw [decide_eq_false (by omega : ¬ 131072 < n)]
  have old1 := stays (heap_alloc_new w _) hb1
  have t1 : Below w.heap.size w w1 := ((Below.refl _ _).alloc (Nat.le_refl _) _).trans (hb1.mono (by simp))
  have q1 := fun i => cell_of_row w1 w.heap.size i _ 45 (0, 0) old1
  go_wp2_with fail
  refine (ckw_all k f _ n _ xs _ hk hf (hx.below t1)).mono ?_
  rintro e w2 ⟨A2, c2, rfl, hB2, hb2⟩
  have t2 := t1.trans (hb2.mono t1.size)
  have hnc := hB2.2.1
  have hcm : c2 ≤ 9223372036854775807 := by have := hB2.2.2.1; unfold maxLen at this; omega
  have hmc : (m : Int) ≤ (c2 : Int) := by omega
  clear q1
  go_wp2_with fail
  refine (read_any A2 m c2 _ w2 (hB2.rd.take (by omega)) (by omega) hcm (by omega)).mono ?_
  rintro e w3 h3
  unfold RdOut at h3
  rw [hno.out] at h3
  obtain ⟨rfl, hb3⟩ := h3
  have t3 := t2.trans (hb3.mono t2.size)
  go_wp2_with fail
  refine (same_any 0 0 0 0 none none 0 0 0 0 [] [] _ (Rd.nil _ _) (Rd.nil _ _) (by omega)).mono ?_
  rintro e w4 ⟨rfl, hb4⟩
  rw [show ((0 : Int) == 0 && (0 : Int) == 0 && eqB [] []) = true from by decide]
  go_wp2_with fail
  refine (works08_any _).mono ?_
  rintro e w5 ⟨rfl, hb5⟩
  go_wp2
  go_ret
  have t4 := (t3.alloc t3.size (.cells #[.int .u8 0, .int .u8 0, .slice none 0 0] 45)).trans (hb4.mono (by have := t3.size; simp; omega))
  exact ⟨rfl, t4.trans (hb5.mono t4.size)⟩

theorem walk (k f : Nat) (A : Option Addr) (n c : Nat) (xs : List UInt8) (cut : Int) (w : World) (hk : k < 256) (hf : f < 256) (hx : Rd w A n xs) (hn : n ≤ c) (hc : c ≤ 9223372036854775807) (_ : -9223372036854775808 ≤ cut) (_ : cut ≤ 9223372036854775807) :
    Calls Try.prog 17 #[.agg #[.int .u8 (k : Int), .int .u8 (f : Int), .slice A n c], .int .i64 cut] w fun e w' => e = .returned (.bool true) ∧ Below w.heap.size w w' := by
  by_cases h : 131072 < n
  · exact walk_big k f A n c cut w (by omega) h
  by_cases ho : cut < 0 ∨ (wrN n : Int) ≤ cut
  · exact walk_out k f A n c xs cut w hk hf hx (by omega) ho
  · obtain ⟨m, rfl⟩ := Int.eq_ofNat_of_zero_le (show 0 ≤ cut by omega)
    exact walk_go k f A n c xs m w hk hf hx (by omega) (by omega)

set_option maxRecDepth 100000 in
theorem lifted (os : Os) (started : os.Started) (H : Type) (enc : TypeId × Value → H) :
    ReturnsInHanded {} Try.checked os 17 .any (Rows.chunkCutsSpec.pre6 enc Try.prog Try.f17 Rows.chunkCutsRow.domain false) (Rows.chunkCutsSpec.post enc Try.prog Try.f17 false true false false) := by
  refine returnsInHanded_of_change (C := Try.checked) own started (by kernel_rfl) Try.func17
    (ChangeSpec.witness6 (enc := enc) (C := Try.checked) false ⟨#[], #[.agg #[.int .u8 0, .int .u8 0, .slice none 0 0], .int .i64 0], []⟩ 8 (by kernel_rfl) (by kernel_rfl) (by kernel_rfl) (by kernel_rfl)) ?_
  intro W base args ds gs before hval0 hW _ _
  have hval : ∀ (j : Nat) t v, Try.f17.params[j]? = some t → args[j]? = some v → Value.okWide Try.prog W .any base t v := hval0
  have hW' := hW
  obtain ⟨p, q, hA0, hV, rfl, _, _⟩ := hW
  have hA : DataW.TrodAll enc Try.prog W 0 (fun _ => true) true Try.f17.params.toList args.toList ds p := hA0
  have hA1 := hA
  rw [Try.params17] at hA hval
  obtain ⟨v0, vs0, d0, ds0, p0, q0, hargs, rfl, rfl, h0, r0⟩ := trodAll_cons hA
  obtain ⟨v1, vs1, d1, ds1, p1, q1, rfl, rfl, rfl, h1, r1⟩ := trodAll_cons r0
  obtain ⟨rfl, rfl, rfl⟩ := trodAll_nil r1
  obtain rfl : args = #[v0, v1] := by cases args; simp_all
  obtain ⟨rfl, rfl⟩ := trodVars_none hV
  obtain ⟨k0, f0, A0, n0, c0, xs0, rfl, hk0, hf0, hx0, hn0, hc0⟩ := chunk_of (hval 0 45 v0 rfl rfl) h0
  obtain ⟨a1, rfl, lo1, hi1⟩ := i64_of (hval 1 3 v1 rfl rfl) h1
  clear hA0 hval0
  simp only [List.append_nil] at hW' hA1
  refine (walk k0 f0 A0 n0 c0 xs0 a1 W hk0 hf0 hx0 hn0 hc0 lo1 hi1).mono fun e W' ⟨he, bel⟩ => ?_
  subst he
  exact ⟨_, rfl, post_law (by kernel_rfl) rfl rfl (by rw [Try.params17]; intro t ht; simp at ht; rcases ht with rfl | rfl <;> exact ⟨by kernel_rfl, of_decide_eq_true (by kernel_rfl)⟩) hW' hA1 bel⟩

theorem closed : joinedFacts Try.prog 17 Try.f17 Rows.chunkCutsSpec Rows.chunkCutsRow = true :=
  closed_of (by kernel_rfl) laidOut mapsRowed0 (by kernel_rfl) (by kernel_rfl) (by kernel_rfl) stops0 (by kernel_rfl) knobs0 (by kernel_rfl) (by kernel_rfl) (by kernel_rfl) (by kernel_rfl) (by kernel_rfl) (by kernel_rfl) (by kernel_rfl)
    (by kernel_rfl) (by kernel_rfl) (by kernel_rfl) (by kernel_rfl) (by kernel_rfl) (by kernel_rfl) (by kernel_rfl) (by kernel_rfl) heard0 enter0 final0 rfl make0 rfl rfl rfl (by kernel_rfl) (by kernel_rfl) (by kernel_rfl)
theorem named : Try.prog.funcNamed Rows.chunkCutsRow.func = some 17 := by kernel_rfl
theorem inst : Try.f17.isInstance Try.prog Rows.chunkCutsRow.origin Rows.chunkCutsRow.targs := of_decide_eq_true (by kernel_rfl)
theorem wrap : Try.f17.isWrapper Try.prog Rows.chunkCutsRow.wrapper Rows.chunkCutsRow.mainSum := by
  unfold Func.isWrapper
  rw [if_neg (by decide +kernel)]
  exact ⟨rfl, rfl⟩
theorem over : Rows.chunkCutsRow.holds Try.pinned (OpenSpec.ofChange Rows.chunkCutsSpec) :=
  OpenClaim.holds_of_wide 17 Try.f17 rfl rfl rfl rfl rfl rfl rfl ⟨rfl, rfl, rfl, rfl, rfl⟩ rfl rfl rfl rfl rfl named Try.func17 closed inst wrap
    (fun os started H enc _ => lifted os started H enc)

/-- The statement. -/
theorem proved : Rows.ChunkCutsSaid := over
#print axioms proved
end Go.Proofs.Ythndlhflkbidiaa.chunkCuts
