/-
  octet.Round: what is rounded up is a multiple of 4, not below the length and less than 4 above it, for every int; what is no length is rounded to 0. No condition.
-/
import Derived.Test.YthndlhflkbidiaaPads
import Derived.Test.YthndlhflkbidiaaOpen
namespace Go.Proofs.Ythndlhflkbidiaa.octetRounds
open Go.Proofs.Ythndlhflkbidiaa
open Go.ChangeShapes Go.WideShapes Go.ChangeAt Go.RowKit

theorem walk (a0 : Int) (w : World) (lo0 : -9223372036854775808 ≤ a0) (hi0 : a0 ≤ 9223372036854775807) :
    Calls Try.prog 7 #[.int .i64 a0] w fun e w' => e = .returned (.bool true) ∧ Below w.heap.size w w' := by
  by_cases h : a0 < 0 ∨ 4611686018427387904 < a0
  · rcases h with h | h
    · go_enter Try.func7, Try.ntmps7
      go_wp2_with (first
        | (go_at_call 39; refine (round_out _ _ (.inl h)).mono ?_; rintro e w' ⟨rfl, rfl⟩)
        | (go_at_call 26; refine (works01_any _).mono ?_; rintro e w1 ⟨rfl, hb⟩))
      go_ret
      exact ⟨rfl, hb⟩
    · have h0 : 0 ≤ a0 := by omega
      go_enter Try.func7, Try.ntmps7
      go_wp2_with (first
        | (go_at_call 39; refine (round_out _ _ (.inr h)).mono ?_; rintro e w' ⟨rfl, rfl⟩)
        | (go_at_call 26; refine (works01_any _).mono ?_; rintro e w1 ⟨rfl, hb⟩))
      go_ret
      exact ⟨rfl, hb⟩
  · obtain ⟨n, rfl⟩ := Int.eq_ofNat_of_zero_le (show 0 ≤ a0 by omega)
    have hn : n ≤ 4611686018427387904 := by omega
    have hu := up_le n
    have hr : up n ≤ 4611686018427387904 := by unfold up; omega
    have huu : up (up n) = up n := by unfold up; omega
    have HU := Lib.hid huu
    have h4 : ((up n : Int) % 4 == 0) = true := by simp; omega
    have hlt : (up n : Int) - n < 4 := by omega
    clear h lo0 hi0 huu
    go_enter Try.func7, Try.ntmps7
    go_wp2_with fail
    refine (round_any n _ hn).mono ?_
    rintro e w' ⟨rfl, rfl⟩
    go_wp2_with fail
    refine (round_any (up n) _ hr).mono ?_
    rintro e w' ⟨rfl, rfl⟩
    rw [HU.out]
    go_wp2_with fail
    refine (works01_any _).mono ?_
    rintro e w1 ⟨rfl, hb⟩
    go_wp2
    go_ret
    exact ⟨rfl, hb⟩

set_option maxRecDepth 100000 in
theorem lifted (os : Os) (started : os.Started) (H : Type) (enc : TypeId × Value → H) :
    ReturnsInHanded {} Try.checked os 7 .any (Rows.octetRoundsSpec.pre6 enc Try.prog Try.f7 Rows.octetRoundsRow.domain false) (Rows.octetRoundsSpec.post enc Try.prog Try.f7 false true false false) := by
  refine returnsInHanded_of_change (C := Try.checked) own started (by kernel_rfl) Try.func7
    (ChangeSpec.witness6 (enc := enc) (C := Try.checked) false ⟨#[], #[.int .i64 0], []⟩ 8 (by kernel_rfl) (by kernel_rfl) (by kernel_rfl) (by kernel_rfl)) ?_
  intro W base args ds gs before hval0 hW _ _
  have hval : ∀ (j : Nat) t v, Try.f7.params[j]? = some t → args[j]? = some v → Value.okWide Try.prog W .any base t v := hval0
  have hW' := hW
  obtain ⟨p, q, hA0, hV, rfl, _, _⟩ := hW
  have hA : DataW.TrodAll enc Try.prog W 0 (fun _ => true) true Try.f7.params.toList args.toList ds p := hA0
  have hA1 := hA
  rw [Try.params7] at hA hval
  obtain ⟨v0, vs0, d0, ds0, p0, q0, hargs, rfl, rfl, h0, r0⟩ := trodAll_cons hA
  obtain ⟨rfl, rfl, rfl⟩ := trodAll_nil r0
  obtain rfl : args = #[v0] := by cases args; simp_all
  obtain ⟨rfl, rfl⟩ := trodVars_none hV
  obtain ⟨a0, rfl, lo0, hi0⟩ := i64_of (hval 0 3 v0 rfl rfl) h0
  clear hA0 hval0
  simp only [List.append_nil] at hW' hA1
  refine (walk a0 W lo0 hi0).mono fun e W' ⟨he, bel⟩ => ?_
  subst he
  exact ⟨_, rfl, post_law (by kernel_rfl) rfl rfl (by rw [Try.params7]; intro t ht; simp at ht; subst ht; exact ⟨by kernel_rfl, of_decide_eq_true (by kernel_rfl)⟩) hW' hA1 bel⟩

theorem closed : joinedFacts Try.prog 7 Try.f7 Rows.octetRoundsSpec Rows.octetRoundsRow = true :=
  closed_of (by kernel_rfl) laidOut mapsRowed0 (by kernel_rfl) (by kernel_rfl) (by kernel_rfl) stops0 (by kernel_rfl) knobs0 (by kernel_rfl) (by kernel_rfl) (by kernel_rfl) (by kernel_rfl) (by kernel_rfl) (by kernel_rfl) (by kernel_rfl)
    (by kernel_rfl) (by kernel_rfl) (by kernel_rfl) (by kernel_rfl) (by kernel_rfl) (by kernel_rfl) (by kernel_rfl) (by kernel_rfl) heard0 enter0 final0 rfl make0 rfl rfl rfl (by kernel_rfl) (by kernel_rfl) (by kernel_rfl)
theorem named : Try.prog.funcNamed Rows.octetRoundsRow.func = some 7 := by kernel_rfl
theorem inst : Try.f7.isInstance Try.prog Rows.octetRoundsRow.origin Rows.octetRoundsRow.targs := of_decide_eq_true (by kernel_rfl)
theorem wrap : Try.f7.isWrapper Try.prog Rows.octetRoundsRow.wrapper Rows.octetRoundsRow.mainSum := by
  unfold Func.isWrapper
  rw [if_neg (by decide +kernel)]
  exact ⟨rfl, rfl⟩
theorem over : Rows.octetRoundsRow.holds Try.pinned (OpenSpec.ofChange Rows.octetRoundsSpec) :=
  OpenClaim.holds_of_wide 7 Try.f7 rfl rfl rfl rfl rfl rfl rfl ⟨rfl, rfl, rfl, rfl, rfl⟩ rfl rfl rfl rfl rfl named Try.func7 closed inst wrap
    (fun os started H enc _ => lifted os started H enc)

/-- The statement. -/
theorem proved : Rows.OctetRoundsSaid := over
#print axioms proved
end Go.Proofs.Ythndlhflkbidiaa.octetRounds
