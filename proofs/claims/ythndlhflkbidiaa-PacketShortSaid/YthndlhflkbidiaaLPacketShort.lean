/-
  Fewer than 12 bytes are no packet, whatever they are: for all bytes. No condition.
-/
import Derived.Test.YthndlhflkbidiaaWk10
import Derived.Test.YthndlhflkbidiaaOpenC
namespace Go.Proofs.Ythndlhflkbidiaa.packetShort
open Go.Proofs.Ythndlhflkbidiaa
open Go.ChangeShapes Go.WideShapes Go.ChangeAt Go.RowKit

theorem walk (A : Option Addr) (n c : Nat) (xs : List UInt8) (w : World) (_hx : Rd w A n xs) (hn : n ≤ c) (hc : c ≤ 9223372036854775807) :
    Calls Try.prog 25 #[.slice A n c] w fun e w' => e = .returned (.bool true) ∧ Below w.heap.size w w' := by
  by_cases h : 11 < n
  · have h' : (11 : Int) < (n : Int) := by omega
    have hc' : (11 : Int) ≤ (c : Int) := by omega
    go_enter Try.func25, Try.ntmps25
    go_wp2_with fail
    refine (pkrd_short A 11 c _ (by omega)).mono ?_
    rintro e w1 ⟨rfl, hb1⟩
    go_wp2_with (go_at_call 41; refine (works10_any _).mono ?_; rintro e w2 ⟨rfl, hb2⟩)
    go_ret
    have t1 := hb1.alloc hb1.size (.cells #[.int .u32 0, .slice none 0 0] 43)
    exact ⟨rfl, t1.trans (hb2.mono t1.size)⟩
  · have h' : ¬ (11 : Int) < (n : Int) := by omega
    have hc' : (n : Int) ≤ (c : Int) := by omega
    go_enter Try.func25, Try.ntmps25
    go_wp2_with fail
    refine (pkrd_short A n c _ (by omega)).mono ?_
    rintro e w1 ⟨rfl, hb1⟩
    go_wp2_with (go_at_call 41; refine (works10_any _).mono ?_; rintro e w2 ⟨rfl, hb2⟩)
    go_ret
    have t1 := hb1.alloc hb1.size (.cells #[.int .u32 0, .slice none 0 0] 43)
    exact ⟨rfl, t1.trans (hb2.mono t1.size)⟩

set_option maxRecDepth 100000 in
theorem lifted (os : Os) (started : os.Started) (H : Type) (enc : TypeId × Value → H) :
    ReturnsInHanded {} Try.checked os 25 .any (Rows.packetShortSpec.pre6 enc Try.prog Try.f25 Rows.packetShortRow.domain false) (Rows.packetShortSpec.post enc Try.prog Try.f25 false true false false) := by
  refine returnsInHanded_of_change (C := Try.checked) own started (by kernel_rfl) Try.func25
    (ChangeSpec.witness6 (enc := enc) (C := Try.checked) false ⟨#[], #[.slice none 0 0], []⟩ 8 (by kernel_rfl) (by kernel_rfl) (by kernel_rfl) (by kernel_rfl)) ?_
  intro W base args ds gs before hval0 hW _ _
  have hval : ∀ (j : Nat) t v, Try.f25.params[j]? = some t → args[j]? = some v → Value.okWide Try.prog W .any base t v := hval0
  have hW' := hW
  obtain ⟨p, q, hA0, hV, rfl, _, _⟩ := hW
  have hA : DataW.TrodAll enc Try.prog W 0 (fun _ => true) true Try.f25.params.toList args.toList ds p := hA0
  have hA1 := hA
  rw [Try.params25] at hA hval
  obtain ⟨v0, vs0, d0, ds0, p0, q0, hargs, rfl, rfl, h0, r0⟩ := trodAll_cons hA
  obtain ⟨rfl, rfl, rfl⟩ := trodAll_nil r0
  obtain rfl : args = #[v0] := by cases args; simp_all
  obtain ⟨rfl, rfl⟩ := trodVars_none hV
  obtain ⟨A0, n0, c0, xs0, rfl, hx0, hn0, hc0⟩ := bytes_of (hval 0 22 v0 rfl rfl) h0
  clear hA0 hval0
  simp only [List.append_nil] at hW' hA1
  refine (walk A0 n0 c0 xs0 W hx0 hn0 hc0).mono fun e W' ⟨he, bel⟩ => ?_
  subst he
  exact ⟨_, rfl, post_law (by kernel_rfl) rfl rfl (by rw [Try.params25]; intro t ht; simp at ht; subst ht; exact ⟨by kernel_rfl, of_decide_eq_true (by kernel_rfl)⟩) hW' hA1 bel⟩

theorem closed : joinedFacts Try.prog 25 Try.f25 Rows.packetShortSpec Rows.packetShortRow = true :=
  closed_of (by kernel_rfl) laidOut mapsRowed0 (by kernel_rfl) (by kernel_rfl) (by kernel_rfl) stops0 (by kernel_rfl) knobs0 (by kernel_rfl) (by kernel_rfl) (by kernel_rfl) (by kernel_rfl) (by kernel_rfl) (by kernel_rfl) (by kernel_rfl)
    (by kernel_rfl) (by kernel_rfl) (by kernel_rfl) (by kernel_rfl) (by kernel_rfl) (by kernel_rfl) (by kernel_rfl) (by kernel_rfl) heard0 enter0 final0 rfl make0 rfl rfl rfl (by kernel_rfl) (by kernel_rfl) (by kernel_rfl)
theorem named : Try.prog.funcNamed Rows.packetShortRow.func = some 25 := by kernel_rfl
theorem inst : Try.f25.isInstance Try.prog Rows.packetShortRow.origin Rows.packetShortRow.targs := of_decide_eq_true (by kernel_rfl)
theorem wrap : Try.f25.isWrapper Try.prog Rows.packetShortRow.wrapper Rows.packetShortRow.mainSum := by
  unfold Func.isWrapper
  rw [if_neg (by decide +kernel)]
  exact ⟨rfl, rfl⟩
theorem over : Rows.packetShortRow.holds Try.pinned (OpenSpec.ofChange Rows.packetShortSpec) :=
  OpenClaim.holds_of_wide 25 Try.f25 rfl rfl rfl rfl rfl rfl rfl ⟨rfl, rfl, rfl, rfl, rfl⟩ rfl rfl rfl rfl rfl named Try.func25 closed inst wrap
    (fun os started H enc _ => lifted os started H enc)

/-- The statement. -/
theorem proved : Rows.PacketShortSaid := over
#print axioms proved
end Go.Proofs.Ythndlhflkbidiaa.packetShort
