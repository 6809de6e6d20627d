/-
  octet.Get: the number at any place of any bytes, or that there is none, as the document says it; the bytes stay. For every slice of bytes and all ints. No condition.
-/
import Derived.Test.YthndlhflkbidiaaPads
import Derived.Test.YthndlhflkbidiaaOpen
namespace Go.Proofs.Ythndlhflkbidiaa.octetGets
open Go.Proofs.Ythndlhflkbidiaa
open Go.ChangeShapes Go.WideShapes Go.ChangeAt Go.RowKit

theorem walk_big (A : Option Addr) (n c : Nat) (a1 a2 : Int) (w : World) (h : (131072 : Int) < (n : Int)) :
    Calls Try.prog 3 #[.slice A n c, .int .i64 a1, .int .i64 a2] w fun e w' => e = .returned (.bool true) ∧ Below w.heap.size w w' := by
  go_enter Try.func3, Try.ntmps3
  go_wp2_with (go_at_call 26; refine (works01_any _).mono ?_; rintro e w1 ⟨rfl, hb⟩)
  go_ret
  exact ⟨rfl, hb⟩

theorem walk_yes (A : Option Addr) (n c : Nat) (xs : List UInt8) (a m : Nat) (w : World) (hx : Rd w A n xs) (hnc : n ≤ c) (hc : c ≤ 9223372036854775807) (h : (n : Int) ≤ 131072) (hs : szB m = true) (ham : a + m ≤ n) :
    Calls Try.prog 3 #[.slice A n c, .int .i64 (a : Int), .int .i64 (m : Int)] w fun e w' => e = .returned (.bool true) ∧ Below w.heap.size w w' := by
  go_enter Try.func3, Try.ntmps3
  go_wp2_with fail
  refine (roomy_any A n c xs _ hx (by omega)).mono ?_
  rintro e w1 ⟨rfl, hB, hb1⟩
  have hin : Rd w1 (some ⟨w.heap.size, 0, none⟩) n xs := (Blk.bo (base := 0) hB (by omega) hx.len rfl (by simp [marks, maxLen]; omega)).rd
  go_wp2_with fail
  refine (get_yes _ _ _ _ a m _ hin hs ham (by omega)).mono ?_
  rintro e w' ⟨rfl, rfl⟩
  go_wp2_with fail
  refine (getR_yes A n c xs a m _ (hx.below hb1) hs ham hnc hc (by omega)).mono ?_
  rintro e w2 ⟨rfl, hb2⟩
  have h12 := hb1.trans (hb2.mono hb1.size)
  generalize be ((xs.drop a).take m) = r
  go_wp2_with fail
  refine (kept_any _ n A c xs _ (hB.after hb2) (hx.below h12) (by omega)).mono ?_
  rintro e w3 ⟨rfl, k3, rfl⟩
  go_wp2_with fail
  refine (works01_any _).mono ?_
  rintro e w4 ⟨rfl, hb4⟩
  go_wp2
  go_ret
  exact ⟨rfl, h12.trans ((below_drewN (Below.refl _ _) k3).trans (hb4.mono (by have := h12.size; simpa using this)))⟩

theorem walk_no (A : Option Addr) (n c : Nat) (xs : List UInt8) (a m : Int) (w : World) (hx : Rd w A n xs) (hnc : n ≤ c) (hc : c ≤ 9223372036854775807) (h : (n : Int) ≤ 131072) (hs : szB m = false ∨ wiB n a m = false) :
    Calls Try.prog 3 #[.slice A n c, .int .i64 a, .int .i64 m] w fun e w' => e = .returned (.bool true) ∧ Below w.heap.size w w' := by
  go_enter Try.func3, Try.ntmps3
  go_wp2_with fail
  refine (roomy_any A n c xs _ hx (by omega)).mono ?_
  rintro e w1 ⟨rfl, hB, hb1⟩
  go_wp2_with fail
  refine (get_no _ _ _ a m _ hs (by omega)).mono ?_
  rintro e w' ⟨rfl, rfl⟩
  go_wp2_with fail
  refine (getR_no A n c xs a m _ (hx.below hb1) hs hnc hc (by omega)).mono ?_
  rintro e w2 ⟨rfl, hb2⟩
  have h12 := hb1.trans (hb2.mono hb1.size)
  go_wp2_with fail
  refine (kept_any _ n A c xs _ (hB.after hb2) (hx.below h12) (by omega)).mono ?_
  rintro e w3 ⟨rfl, k3, rfl⟩
  go_wp2_with fail
  refine (works01_any _).mono ?_
  rintro e w4 ⟨rfl, hb4⟩
  go_wp2
  go_ret
  exact ⟨rfl, h12.trans ((below_drewN (Below.refl _ _) k3).trans (hb4.mono (by have := h12.size; simpa using this)))⟩

theorem walk (A : Option Addr) (n c : Nat) (xs : List UInt8) (a1 a2 : Int) (w : World) (hx : Rd w A n xs) (hnc : n ≤ c) (hc : c ≤ 9223372036854775807) (_ : -9223372036854775808 ≤ a1) (_ : a1 ≤ 9223372036854775807) (_ : -9223372036854775808 ≤ a2) (_ : a2 ≤ 9223372036854775807) :
    Calls Try.prog 3 #[.slice A n c, .int .i64 a1, .int .i64 a2] w fun e w' => e = .returned (.bool true) ∧ Below w.heap.size w w' := by
  by_cases h : (131072 : Int) < (n : Int)
  · exact walk_big A n c a1 a2 w h
  · by_cases hs : szB a2 = true ∧ wiB n a1 a2 = true
    · obtain ⟨hs, hw⟩ := hs
      have hw' := hw
      simp [wiB] at hw'
      obtain ⟨a, rfl⟩ := Int.eq_ofNat_of_zero_le hw'.1
      obtain ⟨k, rfl⟩ := Int.eq_ofNat_of_zero_le hw'.2.1
      exact walk_yes A n c xs a k w hx hnc hc (by omega) hs (by omega)
    · refine walk_no A n c xs a1 a2 w hx hnc hc (by omega) ?_
      by_cases h1 : szB a2 = true
      · right
        simpa [h1] using hs
      · left
        simpa using h1

set_option maxRecDepth 100000 in
theorem lifted (os : Os) (started : os.Started) (H : Type) (enc : TypeId × Value → H) :
    ReturnsInHanded {} Try.checked os 3 .any (Rows.octetGetsSpec.pre6 enc Try.prog Try.f3 Rows.octetGetsRow.domain false) (Rows.octetGetsSpec.post enc Try.prog Try.f3 false true false false) := by
  refine returnsInHanded_of_change (C := Try.checked) own started (by kernel_rfl) Try.func3
    (ChangeSpec.witness6 (enc := enc) (C := Try.checked) false ⟨#[], #[.slice none 0 0, .int .i64 0, .int .i64 0], []⟩ 8 (by kernel_rfl) (by kernel_rfl) (by kernel_rfl) (by kernel_rfl)) ?_
  intro W base args ds gs before hval0 hW _ _
  have hval : ∀ (j : Nat) t v, Try.f3.params[j]? = some t → args[j]? = some v → Value.okWide Try.prog W .any base t v := hval0
  have hW' := hW
  obtain ⟨p, q, hA0, hV, rfl, _, _⟩ := hW
  have hA : DataW.TrodAll enc Try.prog W 0 (fun _ => true) true Try.f3.params.toList args.toList ds p := hA0
  have hA1 := hA
  rw [Try.params3] at hA hval
  obtain ⟨v0, vs0, d0, ds0, p0, q0, hargs, rfl, rfl, h0, r0⟩ := trodAll_cons hA
  obtain ⟨v1, vs1, d1, ds1, p1, q1, rfl, rfl, rfl, h1, r1⟩ := trodAll_cons r0
  obtain ⟨v2, vs2, d2, ds2, p2, q2, rfl, rfl, rfl, h2, r2⟩ := trodAll_cons r1
  obtain ⟨rfl, rfl, rfl⟩ := trodAll_nil r2
  obtain rfl : args = #[v0, v1, v2] := by cases args; simp_all
  obtain ⟨rfl, rfl⟩ := trodVars_none hV
  obtain ⟨A0, n0, c0, xs0, rfl, hx0, hn0, hc0⟩ := bytes_of (hval 0 22 v0 rfl rfl) h0
  obtain ⟨a1, rfl, lo1, hi1⟩ := i64_of (hval 1 3 v1 rfl rfl) h1
  obtain ⟨a2, rfl, lo2, hi2⟩ := i64_of (hval 2 3 v2 rfl rfl) h2
  clear hA0 hval0
  simp only [List.append_nil] at hW' hA1
  refine (walk A0 n0 c0 xs0 a1 a2 W hx0 hn0 hc0 lo1 hi1 lo2 hi2).mono fun e W' ⟨he, bel⟩ => ?_
  subst he
  exact ⟨_, rfl, post_law (by kernel_rfl) rfl rfl (by rw [Try.params3]; intro t ht; simp at ht; rcases ht with rfl | rfl <;> exact ⟨by kernel_rfl, of_decide_eq_true (by kernel_rfl)⟩) hW' hA1 bel⟩

theorem closed : joinedFacts Try.prog 3 Try.f3 Rows.octetGetsSpec Rows.octetGetsRow = true :=
  closed_of (by kernel_rfl) laidOut mapsRowed0 (by kernel_rfl) (by kernel_rfl) (by kernel_rfl) stops0 (by kernel_rfl) knobs0 (by kernel_rfl) (by kernel_rfl) (by kernel_rfl) (by kernel_rfl) (by kernel_rfl) (by kernel_rfl) (by kernel_rfl)
    (by kernel_rfl) (by kernel_rfl) (by kernel_rfl) (by kernel_rfl) (by kernel_rfl) (by kernel_rfl) (by kernel_rfl) (by kernel_rfl) heard0 enter0 final0 rfl make0 rfl rfl rfl (by kernel_rfl) (by kernel_rfl) (by kernel_rfl)
theorem named : Try.prog.funcNamed Rows.octetGetsRow.func = some 3 := by kernel_rfl
theorem inst : Try.f3.isInstance Try.prog Rows.octetGetsRow.origin Rows.octetGetsRow.targs := of_decide_eq_true (by kernel_rfl)
theorem wrap : Try.f3.isWrapper Try.prog Rows.octetGetsRow.wrapper Rows.octetGetsRow.mainSum := by
  unfold Func.isWrapper
  rw [if_neg (by decide +kernel)]
  exact ⟨rfl, rfl⟩
theorem over : Rows.octetGetsRow.holds Try.pinned (OpenSpec.ofChange Rows.octetGetsSpec) :=
  OpenClaim.holds_of_wide 3 Try.f3 rfl rfl rfl rfl rfl rfl rfl ⟨rfl, rfl, rfl, rfl, rfl⟩ rfl rfl rfl rfl rfl named Try.func3 closed inst wrap
    (fun os started H enc _ => lifted os started H enc)

/-- The statement. -/
theorem proved : Rows.OctetGetsSaid := over
#print axioms proved
end Go.Proofs.Ythndlhflkbidiaa.octetGets
