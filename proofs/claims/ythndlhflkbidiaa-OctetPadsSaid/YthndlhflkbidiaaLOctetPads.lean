/-
  octet.Pad answers any bytes, padded with noughts to a multiple of 4, as the document says it, in new memory; the bytes stay, and what is padded stays as it is when it is padded again. For every slice of bytes. No condition.
-/
import Derived.Test.YthndlhflkbidiaaApart
import Derived.Test.YthndlhflkbidiaaOpen
namespace Go.Proofs.Ythndlhflkbidiaa.octetPads
open Go.Proofs.Ythndlhflkbidiaa
open Go.ChangeShapes Go.WideShapes Go.ChangeAt Go.RowKit

theorem walk_big (A : Option Addr) (n c : Nat) (w : World) (h : (131072 : Int) < (n : Int)) :
    Calls Try.prog 6 #[.slice A n c] w fun e w' => e = .returned (.bool true) ∧ Below w.heap.size w w' := by
  go_enter Try.func6, Try.ntmps6
  go_wp2_with (go_at_call 26; refine (works01_any _).mono ?_; rintro e w1 ⟨rfl, hb⟩)
  go_ret
  exact ⟨rfl, hb⟩

theorem padded_padded (xs : List UInt8) : padded (padded xs) = padded xs := by
  have h := up_le xs.length
  have e : up (padded xs).length = (padded xs).length := by rw [padded_length]; unfold up at *; omega
  show padded xs ++ List.replicate (up (padded xs).length - (padded xs).length) 0 = _
  rw [e]; simp

theorem walk_go (A : Option Addr) (n c : Nat) (xs : List UInt8) (w : World) (hx : Rd w A n xs) (h : (n : Int) ≤ 131072) :
    Calls Try.prog 6 #[.slice A n c] w fun e w' => e = .returned (.bool true) ∧ Below w.heap.size w w' := by
  have HT := Lib.hid (show eqB (padded xs) (padded xs) = true by simp [eqB])
  have HP := Lib.hid (padded_padded xs)
  have hu := up_le n
  go_enter Try.func6, Try.ntmps6
  go_wp2_with fail
  refine (roomy_any A n c xs _ hx (by omega)).mono ?_
  rintro e w1 ⟨rfl, hB, hb1⟩
  have hin : Rd w1 (some ⟨w.heap.size, 0, none⟩) n xs := (Blk.bo (base := 0) hB (by omega) hx.len rfl (by simp [marks, maxLen]; omega)).rd
  go_wp2_with fail
  refine (pad_any _ _ _ _ _ hin (by omega)).mono ?_
  rintro e w2 ⟨A2, c2, rfl, hB2, hb2⟩
  have hx2 : Rd w2 A n xs := (hx.below hb1).below hb2
  go_wp2_with fail
  refine (padR_any _ _ _ _ _ hx2 (by omega)).mono ?_
  rintro e w3 ⟨A3, c3, rfl, hB3, hb3⟩
  have hBi3 : Blk w3 w.heap.size (xs ++ marks) := (hB.after hb2).after hb3
  have hx3 : Rd w3 A n xs := hx2.below hb3
  go_wp2_with fail
  refine (eq_any _ _ _ _ _ _ _ _ _ (hB2.below hb3).rd hB3.rd (by omega)).mono ?_
  rintro e w' ⟨rfl, q, rfl⟩
  rw [HT.out]
  go_wp2_with fail
  refine (kept_any _ n A c xs _ (hBi3.drewN _) (hx3.drewN _) (by omega)).mono ?_
  rintro e w' ⟨rfl, q2, rfl⟩
  have hin3 : Rd (w3.drewN (q + q2)) (some ⟨w.heap.size, 0, none⟩) n xs := ((hin.below hb2).below hb3).drewN _
  go_wp2_with fail
  refine (pad_any _ _ _ _ _ hin3 (by omega)).mono ?_
  rintro e w5 ⟨A5, c5, rfl, hB5, hb5⟩
  have b3 : Below w2.heap.size w2 (w3.drewN (q + q2)) := below_drewN hb3 _
  have s2 := hb2.size
  have s3 := b3.size
  have hB25 : Bo w5 w1.heap.size A2 (up n) c2 (padded xs) := (hB2.below hb3 |>.drewN (q + q2)).below hb5
  go_wp2_with fail
  refine (pad_any _ _ _ _ _ hB5.rd (by omega)).mono ?_
  rintro e w6 ⟨A6, c6, rfl, hB6, hb6⟩
  rw [HP.out] at hB6
  go_wp2_with fail
  refine (eq_any _ _ _ _ _ _ _ _ _ hB6.rd (hB25.below hb6).rd (by unfold up; omega)).mono ?_
  rintro e w' ⟨rfl, q7, rfl⟩
  rw [HT.out]
  have b5 : Below w2.heap.size w2 w5 := b3.trans (hb5.mono s3)
  have b6 : Below w5.heap.size w5 (w6.drewN q7) := below_drewN hb6 _
  go_wp2_with fail
  refine (apart3 (w0 := w1) (w2 := w6.drewN q7) hB2 ((hB5.mono s3).below b6) hB (by simp [marks, hx.len]) (by omega) hb2 (b5.trans (b6.mono b5.size))).mono ?_
  rintro e w8 ⟨rfl, hb8⟩
  go_wp2_with fail
  refine (works01_any _).mono ?_
  rintro e w9 ⟨rfl, hb9⟩
  go_wp2
  go_ret
  have t1 : Below w.heap.size w w2 := hb1.trans (hb2.mono hb1.size)
  have t3 : Below w.heap.size w w5 := t1.trans (b5.mono t1.size)
  have t4 : Below w.heap.size w (w6.drewN q7) := t3.trans (b6.mono t3.size)
  have t5 : Below w.heap.size w w8 := t4.trans (hb8.mono t4.size)
  exact ⟨rfl, t5.trans (hb9.mono t5.size)⟩

theorem walk (A : Option Addr) (n c : Nat) (xs : List UInt8) (w : World) (hx : Rd w A n xs) (_ : n ≤ c) (_ : c ≤ 9223372036854775807) :
    Calls Try.prog 6 #[.slice A n c] w fun e w' => e = .returned (.bool true) ∧ Below w.heap.size w w' := by
  by_cases h : (131072 : Int) < (n : Int)
  · exact walk_big A n c w h
  · exact walk_go A n c xs w hx (by omega)

set_option maxRecDepth 100000 in
theorem lifted (os : Os) (started : os.Started) (H : Type) (enc : TypeId × Value → H) :
    ReturnsInHanded {} Try.checked os 6 .any (Rows.octetPadsSpec.pre6 enc Try.prog Try.f6 Rows.octetPadsRow.domain false) (Rows.octetPadsSpec.post enc Try.prog Try.f6 false true false false) := by
  refine returnsInHanded_of_change (C := Try.checked) own started (by kernel_rfl) Try.func6
    (ChangeSpec.witness6 (enc := enc) (C := Try.checked) false ⟨#[], #[.slice none 0 0], []⟩ 8 (by kernel_rfl) (by kernel_rfl) (by kernel_rfl) (by kernel_rfl)) ?_
  intro W base args ds gs before hval0 hW _ _
  have hval : ∀ (j : Nat) t v, Try.f6.params[j]? = some t → args[j]? = some v → Value.okWide Try.prog W .any base t v := hval0
  have hW' := hW
  obtain ⟨p, q, hA0, hV, rfl, _, _⟩ := hW
  have hA : DataW.TrodAll enc Try.prog W 0 (fun _ => true) true Try.f6.params.toList args.toList ds p := hA0
  have hA1 := hA
  rw [Try.params6] at hA hval
  obtain ⟨v0, vs0, d0, ds0, p0, q0, hargs, rfl, rfl, h0, r0⟩ := trodAll_cons hA
  obtain ⟨rfl, rfl, rfl⟩ := trodAll_nil r0
  obtain rfl : args = #[v0] := by cases args; simp_all
  obtain ⟨rfl, rfl⟩ := trodVars_none hV
  obtain ⟨A0, n0, c0, xs0, rfl, hx0, hn0, hc0⟩ := bytes_of (hval 0 22 v0 rfl rfl) h0
  clear hA0 hval0
  simp only [List.append_nil] at hW' hA1
  refine (walk A0 n0 c0 xs0 W hx0 hn0 hc0).mono fun e W' ⟨he, bel⟩ => ?_
  subst he
  exact ⟨_, rfl, post_law (by kernel_rfl) rfl rfl (by rw [Try.params6]; intro t ht; simp at ht; subst ht; exact ⟨by kernel_rfl, of_decide_eq_true (by kernel_rfl)⟩) hW' hA1 bel⟩

theorem closed : joinedFacts Try.prog 6 Try.f6 Rows.octetPadsSpec Rows.octetPadsRow = true :=
  closed_of (by kernel_rfl) laidOut mapsRowed0 (by kernel_rfl) (by kernel_rfl) (by kernel_rfl) stops0 (by kernel_rfl) knobs0 (by kernel_rfl) (by kernel_rfl) (by kernel_rfl) (by kernel_rfl) (by kernel_rfl) (by kernel_rfl) (by kernel_rfl)
    (by kernel_rfl) (by kernel_rfl) (by kernel_rfl) (by kernel_rfl) (by kernel_rfl) (by kernel_rfl) (by kernel_rfl) (by kernel_rfl) heard0 enter0 final0 rfl make0 rfl rfl rfl (by kernel_rfl) (by kernel_rfl) (by kernel_rfl)
theorem named : Try.prog.funcNamed Rows.octetPadsRow.func = some 6 := by kernel_rfl
theorem inst : Try.f6.isInstance Try.prog Rows.octetPadsRow.origin Rows.octetPadsRow.targs := of_decide_eq_true (by kernel_rfl)
theorem wrap : Try.f6.isWrapper Try.prog Rows.octetPadsRow.wrapper Rows.octetPadsRow.mainSum := by
  unfold Func.isWrapper
  rw [if_neg (by decide +kernel)]
  exact ⟨rfl, rfl⟩
theorem over : Rows.octetPadsRow.holds Try.pinned (OpenSpec.ofChange Rows.octetPadsSpec) :=
  OpenClaim.holds_of_wide 6 Try.f6 rfl rfl rfl rfl rfl rfl rfl ⟨rfl, rfl, rfl, rfl, rfl⟩ rfl rfl rfl rfl rfl named Try.func6 closed inst wrap
    (fun os started H enc _ => lifted os started H enc)

/-- The statement. -/
theorem proved : Rows.OctetPadsSaid := over
#print axioms proved
end Go.Proofs.Ythndlhflkbidiaa.octetPads
