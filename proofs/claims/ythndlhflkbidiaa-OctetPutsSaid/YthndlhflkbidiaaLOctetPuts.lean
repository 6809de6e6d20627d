/-
  octet.Put answers any number behind any bytes, as the document says it, in new memory; the bytes stay. For every slice of bytes, every number and every size. No condition.
-/
import Derived.Test.YthndlhflkbidiaaApart
import Derived.Test.YthndlhflkbidiaaOpen
namespace Go.Proofs.Ythndlhflkbidiaa.octetPuts
open Go.Proofs.Ythndlhflkbidiaa
open Go.ChangeShapes Go.WideShapes Go.ChangeAt Go.RowKit

theorem walk_big (A : Option Addr) (n c : Nat) (a1 a2 : Int) (w : World) (h : (131072 : Int) < (n : Int)) :
    Calls Try.prog 4 #[.slice A n c, .int .u64 a1, .int .i64 a2] w fun e w' => e = .returned (.bool true) ∧ Below w.heap.size w w' := by
  go_enter Try.func4, Try.ntmps4
  go_wp2_with (go_at_call 26; refine (works01_any _).mono ?_; rintro e w1 ⟨rfl, hb⟩)
  go_ret
  exact ⟨rfl, hb⟩

/-- Put, of whatever size: the bytes ps behind xs. -/
def Puts (K : FuncId) (xs : List UInt8) (n : Nat) (x m : Int) (np : Nat) (ps : List UInt8) : Prop :=
  ∀ (A : Option Addr) (c : Nat) (w : World), Rd w A n xs → Calls Try.prog K #[.slice A n c, .int .u64 x, .int .i64 m] w (Fresh w np (xs ++ ps))

theorem walk_go (A : Option Addr) (n c : Nat) (xs : List UInt8) (x m : Int) (np : Nat) (ps : List UInt8) (w : World) (hx : Rd w A n xs) (h : (n : Int) ≤ 131072)
    (h1 : Puts 31 xs n x m np ps) (h2 : Puts 33 xs n x m np ps) (hnp : np ≤ n + 8) :
    Calls Try.prog 4 #[.slice A n c, .int .u64 x, .int .i64 m] w fun e w' => e = .returned (.bool true) ∧ Below w.heap.size w w' := by
  have HT := Lib.hid (show eqB (xs ++ ps) (xs ++ ps) = true by simp [eqB])
  have H1 := Lib.hid h1
  have H2 := Lib.hid h2
  clear h1 h2
  go_enter Try.func4, Try.ntmps4
  go_wp2_with fail
  refine (roomy_any A n c xs _ hx (by omega)).mono ?_
  rintro e w1 ⟨rfl, hB, hb1⟩
  have hin : Rd w1 (some ⟨w.heap.size, 0, none⟩) n xs := (Blk.bo (base := 0) hB (by omega) hx.len rfl (by simp [marks, maxLen]; omega)).rd
  go_wp2_with fail
  refine (H1.out _ _ _ hin).mono ?_
  rintro e w2 ⟨A2, c2, rfl, hB2, hb2⟩
  have hx2 : Rd w2 A n xs := (hx.below hb1).below hb2
  go_wp2_with fail
  refine (H2.out _ _ _ hx2).mono ?_
  rintro e w3 ⟨A3, c3, rfl, hB3, hb3⟩
  have hBi3 : Blk w3 w.heap.size (xs ++ marks) := (hB.after hb2).after hb3
  have hx3 : Rd w3 A n xs := hx2.below hb3
  go_wp2_with fail
  refine (eq_any _ _ _ _ _ _ _ _ _ (hB2.below hb3).rd hB3.rd (by omega)).mono ?_
  rintro e w' ⟨rfl, q, rfl⟩
  rw [HT.out]
  go_wp2_with fail
  refine (kept_any _ n A c xs _ (hBi3.drewN _) (hx3.drewN _) (by omega)).mono ?_
  rintro e w' ⟨rfl, q2, rfl⟩
  have hin3 : Rd (w3.drewN (q + q2)) (some ⟨w.heap.size, 0, none⟩) n xs := ((hin.below hb2).below hb3).drewN _
  go_wp2_with fail
  refine (H1.out _ _ _ hin3).mono ?_
  rintro e w5 ⟨A5, c5, rfl, hB5, hb5⟩
  have b3 : Below w2.heap.size w2 (w3.drewN (q + q2)) := below_drewN hb3 _
  have s2 := hb2.size
  have s3 := b3.size
  go_wp2_with fail
  refine (apart3 (w0 := w1) hB2 (hB5.mono s3) hB (by simp [marks, hx.len]) (by omega) hb2 (b3.trans (hb5.mono s3))).mono ?_
  rintro e w6 ⟨rfl, hb6⟩
  go_wp2_with fail
  refine (works01_any _).mono ?_
  rintro e w7 ⟨rfl, hb7⟩
  go_wp2
  go_ret
  have t1 : Below w.heap.size w w2 := hb1.trans (hb2.mono hb1.size)
  have t2 : Below w.heap.size w (w3.drewN (q + q2)) := t1.trans (b3.mono t1.size)
  have t3 : Below w.heap.size w w5 := t2.trans (hb5.mono t2.size)
  have t4 : Below w.heap.size w w6 := t3.trans (hb6.mono t3.size)
  exact ⟨rfl, t4.trans (hb7.mono t4.size)⟩

theorem walk (A : Option Addr) (n c : Nat) (xs : List UInt8) (x : Nat) (m : Int) (w : World) (hx : Rd w A n xs) (_ : n ≤ c) (_ : c ≤ 9223372036854775807) (_ : x < 18446744073709551616) (_ : -9223372036854775808 ≤ m) (_ : m ≤ 9223372036854775807) :
    Calls Try.prog 4 #[.slice A n c, .int .u64 (x : Int), .int .i64 m] w fun e w' => e = .returned (.bool true) ∧ Below w.heap.size w w' := by
  by_cases h : (131072 : Int) < (n : Int)
  · exact walk_big A n c x m w h
  · by_cases hs : szB m = true
    · have hm : 0 ≤ m ∧ m ≤ 8 := by simp [szB] at hs; omega
      obtain ⟨k, rfl⟩ := Int.eq_ofNat_of_zero_le hm.1
      exact walk_go A n c xs x k (n + k) (nb x k) w hx (by omega) (fun A c w hr => put_yes A n c xs x k w hr hs (by omega)) (fun A c w hr => putR_yes A n c xs x k w hr hs (by omega)) (by omega)
    · have hs' : szB m = false := by simpa using hs
      exact walk_go A n c xs x m n [] w hx (by omega) (fun A c w hr => by rw [List.append_nil]; exact put_no A n c xs x m w hr hs' (by omega)) (fun A c w hr => by rw [List.append_nil]; exact putR_no A n c xs x m w hr hs' (by omega)) (by omega)

set_option maxRecDepth 100000 in
theorem lifted (os : Os) (started : os.Started) (H : Type) (enc : TypeId × Value → H) :
    ReturnsInHanded {} Try.checked os 4 .any (Rows.octetPutsSpec.pre6 enc Try.prog Try.f4 Rows.octetPutsRow.domain false) (Rows.octetPutsSpec.post enc Try.prog Try.f4 false true false false) := by
  refine returnsInHanded_of_change (C := Try.checked) own started (by kernel_rfl) Try.func4
    (ChangeSpec.witness6 (enc := enc) (C := Try.checked) false ⟨#[], #[.slice none 0 0, .int .u64 0, .int .i64 0], []⟩ 8 (by kernel_rfl) (by kernel_rfl) (by kernel_rfl) (by kernel_rfl)) ?_
  intro W base args ds gs before hval0 hW _ _
  have hval : ∀ (j : Nat) t v, Try.f4.params[j]? = some t → args[j]? = some v → Value.okWide Try.prog W .any base t v := hval0
  have hW' := hW
  obtain ⟨p, q, hA0, hV, rfl, _, _⟩ := hW
  have hA : DataW.TrodAll enc Try.prog W 0 (fun _ => true) true Try.f4.params.toList args.toList ds p := hA0
  have hA1 := hA
  rw [Try.params4] at hA hval
  obtain ⟨v0, vs0, d0, ds0, p0, q0, hargs, rfl, rfl, h0, r0⟩ := trodAll_cons hA
  obtain ⟨v1, vs1, d1, ds1, p1, q1, rfl, rfl, rfl, h1, r1⟩ := trodAll_cons r0
  obtain ⟨v2, vs2, d2, ds2, p2, q2, rfl, rfl, rfl, h2, r2⟩ := trodAll_cons r1
  obtain ⟨rfl, rfl, rfl⟩ := trodAll_nil r2
  obtain rfl : args = #[v0, v1, v2] := by cases args; simp_all
  obtain ⟨rfl, rfl⟩ := trodVars_none hV
  obtain ⟨A0, n0, c0, xs0, rfl, hx0, hn0, hc0⟩ := bytes_of (hval 0 22 v0 rfl rfl) h0
  obtain ⟨a1, rfl, hi1⟩ := u64_of (hval 1 25 v1 rfl rfl) h1
  obtain ⟨a2, rfl, lo2, hi2⟩ := i64_of (hval 2 3 v2 rfl rfl) h2
  clear hA0 hval0
  simp only [List.append_nil] at hW' hA1
  refine (walk A0 n0 c0 xs0 a1 a2 W hx0 hn0 hc0 hi1 lo2 hi2).mono fun e W' ⟨he, bel⟩ => ?_
  subst he
  exact ⟨_, rfl, post_law (by kernel_rfl) rfl rfl (by rw [Try.params4]; intro t ht; simp at ht; rcases ht with rfl | rfl | rfl <;> exact ⟨by kernel_rfl, of_decide_eq_true (by kernel_rfl)⟩) hW' hA1 bel⟩

theorem closed : joinedFacts Try.prog 4 Try.f4 Rows.octetPutsSpec Rows.octetPutsRow = true :=
  closed_of (by kernel_rfl) laidOut mapsRowed0 (by kernel_rfl) (by kernel_rfl) (by kernel_rfl) stops0 (by kernel_rfl) knobs0 (by kernel_rfl) (by kernel_rfl) (by kernel_rfl) (by kernel_rfl) (by kernel_rfl) (by kernel_rfl) (by kernel_rfl)
    (by kernel_rfl) (by kernel_rfl) (by kernel_rfl) (by kernel_rfl) (by kernel_rfl) (by kernel_rfl) (by kernel_rfl) (by kernel_rfl) heard0 enter0 final0 rfl make0 rfl rfl rfl (by kernel_rfl) (by kernel_rfl) (by kernel_rfl)
theorem named : Try.prog.funcNamed Rows.octetPutsRow.func = some 4 := by kernel_rfl
theorem inst : Try.f4.isInstance Try.prog Rows.octetPutsRow.origin Rows.octetPutsRow.targs := of_decide_eq_true (by kernel_rfl)
theorem wrap : Try.f4.isWrapper Try.prog Rows.octetPutsRow.wrapper Rows.octetPutsRow.mainSum := by
  unfold Func.isWrapper
  rw [if_neg (by decide +kernel)]
  exact ⟨rfl, rfl⟩
theorem over : Rows.octetPutsRow.holds Try.pinned (OpenSpec.ofChange Rows.octetPutsSpec) :=
  OpenClaim.holds_of_wide 4 Try.f4 rfl rfl rfl rfl rfl rfl rfl ⟨rfl, rfl, rfl, rfl, rfl⟩ rfl rfl rfl rfl rfl named Try.func4 closed inst wrap
    (fun os started H enc _ => lifted os started H enc)

/-- The statement. -/
theorem proved : Rows.OctetPutsSaid := over
#print axioms proved
end Go.Proofs.Ythndlhflkbidiaa.octetPuts
