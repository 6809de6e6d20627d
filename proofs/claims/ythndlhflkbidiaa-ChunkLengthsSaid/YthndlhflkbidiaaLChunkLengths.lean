/-
  Of noughts behind a head of a chunk just as many bytes are read as the length in the head says, rounded up, if that is 4 at least and there are as many. For every kind, length and number of noughts. No condition.
-/
import Derived.Test.YthndlhflkbidiaaCkLens
import Derived.Test.YthndlhflkbidiaaOpenC
namespace Go.Proofs.Ythndlhflkbidiaa.chunkLengths
open Go.Proofs.Ythndlhflkbidiaa
open Go.ChangeShapes Go.WideShapes Go.ChangeAt Go.RowKit

theorem walk (k L N : Nat) (w : World) (hk : k < 256) (hL : L < 65536) (hN : N < 65536) :
    Calls Try.prog 19 #[.int .u8 (k : Int), .int .u16 (L : Int), .int .u16 (N : Int)] w fun e w' => e = .returned (.bool true) ∧ Below w.heap.size w w' := by
  have hu := up_le L
  have hB0 := rd_four w k L hk hL
  have HO := Lib.hid (lens_ok k L N hL)
  have HC := Lib.hid (lens_ckLen k L N hL)
  have HG := Lib.hid (lens_gb0 k L N hk)
  go_enter Try.func19, Try.ntmps19
  go_wp2_with (at_builtin; refine wpList_noughts R22 (kn := .i64) Try.underlying3 _ rfl (.tmp 19) (.tmp 21) rfl w.heap.size rfl rfl hB0 (by omega) (by simp) ?_; intro A1 c1 w1 hB1 hg1 hor1)
  have hb1 := below_grown hB0 hg1 (by simp)
  have t1 : Below w.heap.size w w1 := ((Below.refl _ _).alloc (Nat.le_refl _) _).trans hb1
  clear hg1 hor1 hb1 hB0
  have hnc := hB1.2.1
  have hcm : c1 ≤ 9223372036854775807 := by have := hB1.2.2.1; unfold maxLen at this; omega
  refine (read_any A1 (4 + N) c1 (lenB k L N) w1 hB1.rd hnc hcm (by omega)).mono ?_
  rintro e w2 h2
  unfold RdOut at h2
  rw [HO.out] at h2
  by_cases h4 : 4 ≤ L
  · by_cases hl : up L ≤ 4 + N
    · rw [decide_eq_true h4, decide_eq_true hl] at h2
      simp only [Bool.and_self, if_true] at h2
      unfold RdGood at h2
      rw [HC.out, HG.out] at h2
      obtain ⟨A2, c2, rfl, hB2, hb2⟩ := h2
      have t2 := t1.trans (hb2.mono t1.size)
      have hu3 : ¬ ((4 : Int) + (N : Int) < ((L : Int) + 3) / 4 * 4) := by unfold up at hl; omega
      have hu4 : ((up L : Int) == ((L : Int) + 3) / 4 * 4) = true := by simp [up]
      go_wp2_with (go_at_call 48; refine (works08_any _).mono ?_; rintro e w5 ⟨rfl, hb5⟩)
      go_ret
      have t3 := t2.alloc t2.size (.cells #[.int .u8 (k : Int), .int .u8 (gb (lenB k L N) 1 : Int), .slice A2 (L - 4) c2] 45)
      exact ⟨rfl, t3.trans (hb5.mono t3.size)⟩
    · rw [decide_eq_true h4, decide_eq_false hl] at h2
      obtain ⟨rfl, hb2⟩ := h2
      have t2 := t1.trans (hb2.mono t1.size)
      have hu3 : ((4 : Int) + (N : Int) < ((L : Int) + 3) / 4 * 4) := by unfold up at hl; omega
      go_wp2_with (go_at_call 48; refine (works08_any _).mono ?_; rintro e w5 ⟨rfl, hb5⟩)
      go_ret
      have t3 := t2.alloc t2.size (.cells #[.int .u8 0, .int .u8 0, .slice none 0 0] 45)
      exact ⟨rfl, t3.trans (hb5.mono t3.size)⟩
  · rw [decide_eq_false h4] at h2
    obtain ⟨rfl, hb2⟩ := h2
    have t2 := t1.trans (hb2.mono t1.size)
    have h4' : (L : Int) < 4 := by omega
    go_wp2_with (go_at_call 48; refine (works08_any _).mono ?_; rintro e w5 ⟨rfl, hb5⟩)
    go_ret
    have t3 := t2.alloc t2.size (.cells #[.int .u8 0, .int .u8 0, .slice none 0 0] 45)
    exact ⟨rfl, t3.trans (hb5.mono t3.size)⟩

set_option maxRecDepth 100000 in
theorem lifted (os : Os) (started : os.Started) (H : Type) (enc : TypeId × Value → H) :
    ReturnsInHanded {} Try.checked os 19 .any (Rows.chunkLengthsSpec.pre6 enc Try.prog Try.f19 Rows.chunkLengthsRow.domain false) (Rows.chunkLengthsSpec.post enc Try.prog Try.f19 false true false false) := by
  refine returnsInHanded_of_change (C := Try.checked) own started (by kernel_rfl) Try.func19
    (ChangeSpec.witness6 (enc := enc) (C := Try.checked) false ⟨#[], #[.int .u8 0, .int .u16 0, .int .u16 0], []⟩ 8 (by kernel_rfl) (by kernel_rfl) (by kernel_rfl) (by kernel_rfl)) ?_
  intro W base args ds gs before hval0 hW _ _
  have hval : ∀ (j : Nat) t v, Try.f19.params[j]? = some t → args[j]? = some v → Value.okWide Try.prog W .any base t v := hval0
  have hW' := hW
  obtain ⟨p, q, hA0, hV, rfl, _, _⟩ := hW
  have hA : DataW.TrodAll enc Try.prog W 0 (fun _ => true) true Try.f19.params.toList args.toList ds p := hA0
  have hA1 := hA
  rw [Try.params19] at hA hval
  obtain ⟨v0, vs0, d0, ds0, p0, q0, hargs, rfl, rfl, h0, r0⟩ := trodAll_cons hA
  obtain ⟨v1, vs1, d1, ds1, p1, q1, rfl, rfl, rfl, h1, r1⟩ := trodAll_cons r0
  obtain ⟨v2, vs2, d2, ds2, p2, q2, rfl, rfl, rfl, h2, r2⟩ := trodAll_cons r1
  obtain ⟨rfl, rfl, rfl⟩ := trodAll_nil r2
  obtain rfl : args = #[v0, v1, v2] := by cases args; simp_all
  obtain ⟨rfl, rfl⟩ := trodVars_none hV
  obtain ⟨a0, rfl, hi0⟩ := u8_of (hval 0 5 v0 rfl rfl) h0
  obtain ⟨a1, rfl, hi1⟩ := u16_of (hval 1 66 v1 rfl rfl) h1
  obtain ⟨a2, rfl, hi2⟩ := u16_of (hval 2 66 v2 rfl rfl) h2
  clear hA0 hval0
  simp only [List.append_nil] at hW' hA1
  refine (walk a0 a1 a2 W hi0 hi1 hi2).mono fun e W' ⟨he, bel⟩ => ?_
  subst he
  exact ⟨_, rfl, post_law (by kernel_rfl) rfl rfl (by rw [Try.params19]; intro t ht; simp at ht; rcases ht with rfl | rfl <;> exact ⟨by kernel_rfl, of_decide_eq_true (by kernel_rfl)⟩) hW' hA1 bel⟩

theorem closed : joinedFacts Try.prog 19 Try.f19 Rows.chunkLengthsSpec Rows.chunkLengthsRow = true :=
  closed_of (by kernel_rfl) laidOut mapsRowed0 (by kernel_rfl) (by kernel_rfl) (by kernel_rfl) stops0 (by kernel_rfl) knobs0 (by kernel_rfl) (by kernel_rfl) (by kernel_rfl) (by kernel_rfl) (by kernel_rfl) (by kernel_rfl) (by kernel_rfl)
    (by kernel_rfl) (by kernel_rfl) (by kernel_rfl) (by kernel_rfl) (by kernel_rfl) (by kernel_rfl) (by kernel_rfl) (by kernel_rfl) heard0 enter0 final0 rfl make0 rfl rfl rfl (by kernel_rfl) (by kernel_rfl) (by kernel_rfl)
theorem named : Try.prog.funcNamed Rows.chunkLengthsRow.func = some 19 := by kernel_rfl
theorem inst : Try.f19.isInstance Try.prog Rows.chunkLengthsRow.origin Rows.chunkLengthsRow.targs := of_decide_eq_true (by kernel_rfl)
theorem wrap : Try.f19.isWrapper Try.prog Rows.chunkLengthsRow.wrapper Rows.chunkLengthsRow.mainSum := by
  unfold Func.isWrapper
  rw [if_neg (by decide +kernel)]
  exact ⟨rfl, rfl⟩
theorem over : Rows.chunkLengthsRow.holds Try.pinned (OpenSpec.ofChange Rows.chunkLengthsSpec) :=
  OpenClaim.holds_of_wide 19 Try.f19 rfl rfl rfl rfl rfl rfl rfl ⟨rfl, rfl, rfl, rfl, rfl⟩ rfl rfl rfl rfl rfl named Try.func19 closed inst wrap
    (fun os started H enc _ => lifted os started H enc)

/-- The statement. -/
theorem proved : Rows.ChunkLengthsSaid := over
#print axioms proved
end Go.Proofs.Ythndlhflkbidiaa.chunkLengths
