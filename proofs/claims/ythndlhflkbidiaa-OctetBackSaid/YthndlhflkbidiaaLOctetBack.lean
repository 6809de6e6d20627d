/-
  octet.Put and octet.Get: what is put behind bytes is got there, as far as the size goes; each of its bytes is what 256, so often, divides out of it. For every slice of bytes and every number. No condition.
-/
import Derived.Test.YthndlhflkbidiaaNumsP
import Derived.Test.YthndlhflkbidiaaOpen
namespace Go.Proofs.Ythndlhflkbidiaa.octetBack
open Go.Proofs.Ythndlhflkbidiaa
open Go.ChangeShapes Go.WideShapes Go.ChangeAt Go.RowKit

theorem walk_big (A : Option Addr) (n c : Nat) (a1 : Int) (w : World) (h : (4096 : Int) < (n : Int)) :
    Calls Try.prog 9 #[.slice A n c, .int .u64 a1] w fun e w' => e = .returned (.bool true) ∧ Below w.heap.size w w' := by
  go_enter Try.func9, Try.ntmps9
  go_wp2_with (go_at_call 26; refine (works01_any _).mono ?_; rintro e w1 ⟨rfl, hb⟩)
  go_ret
  exact ⟨rfl, hb⟩

def BackRel (w : World) (i : Value) (wr : World) : Prop := ∃ k : Nat, k ≤ 4 ∧ i = .int .i64 k ∧ Below (w.heap.size + 1) (w.alloc (.cells #[.int .i64 1, .int .i64 2, .int .i64 4, .int .i64 8] 3)) wr

set_option maxRecDepth 100000 in
theorem walk_go (A : Option Addr) (n c : Nat) (xs : List UInt8) (x : Nat) (w : World) (hx : Rd w A n xs) (h : (n : Int) ≤ 4096) (hx64 : x < 18446744073709551616) :
    Calls Try.prog 9 #[.slice A n c, .int .u64 (x : Int)] w fun e w' => e = .returned (.bool true) ∧ Below w.heap.size w w' := by
  have HT := Lib.hid (show eqB xs xs = true by simp [eqB])
  go_enter Try.func9, Try.ntmps9
  go_wp2
  go_loopw [6] (fun i wr => BackRel w i wr) (fun i _ => 4 - (intOf i).toNat)
  case atStart => exact ⟨0, by omega, rfl, Below.refl _ _⟩
  case round =>
    obtain ⟨i, hi, rfl, hb⟩ := hrel
    by_cases hlt : i < 4
    · have hlt' : (i : Int) < 4 := by omega
      have hcell := (hb.cell (p := ⟨w.heap.size, i, none⟩) (by simp)).trans (sz_cells w i hlt)
      obtain ⟨hs, hm1, hm8⟩ := sz_ok i
      obtain ⟨m, hm⟩ : ∃ m, m = sz i := ⟨_, rfl⟩
      rw [← hm] at hs hm1 hm8 hcell
      have HM := Lib.hid hm
      have HS := Lib.hid hs
      clear hm hs
      have hx1 : Rd wr A n xs := (hx.alloc _).below (hb.mono (by simp))
      obtain ⟨wo, rfl⟩ : ∃ wo : World, wo = wr := ⟨_, rfl⟩
      have hso := hb.size
      simp at hso
      go_wp2_with fail
      refine (put_yes A n c xs x m _ hx1 HS.out (by omega)).mono ?_
      rintro e w1 ⟨A1, c1, rfl, hB1, hb1⟩
      have hnc1 := hB1.2.1
      have hd : ((xs ++ nb x m).drop n).take m = nb x m := by
        rw [← hx.len, List.drop_left, List.take_of_length_le (by rw [nb_length]; omega)]
      have HD := Lib.hid hd
      clear hd
      go_wp2_with fail
      refine (get_yes A1 (n + m) c1 _ n m _ hB1.rd HS.out (by omega) (by omega)).mono ?_
      rintro e w' ⟨rfl, rfl⟩
      rw [HD.out]
      have hr1 : Rd w1 A1 n xs := by
        have := hB1.rd.cut (k := 0) (m := n) (cap := c1) (by omega) hB1.2.1 A1 (by split <;> simp [add_zero'])
        rw [List.drop_zero, ← hx.len, List.take_left] at this
        rw [hx.len] at this
        exact this
      go_wp2_with fail
      refine (eq_any _ _ _ _ _ _ _ _ _ hr1 (hx1.below hb1) (by omega)).mono ?_
      rintro e w' ⟨rfl, q, rfl⟩
      rw [HT.out]
      have hbx := be_nb m x
      generalize be (nb x m) = y at *
      have HBX := Lib.hid hbx
      clear hbx
      go_wp2_with fail
      go_loopw [11, 12] (fun l k wx => ∃ j lv : Nat, j ≤ m ∧ k = .int .i64 ((n : Int) + m - 1 - j) ∧ l = .int .u64 (lv : Int) ∧ lv = x / 256 ^ j ∧ wx = w1.drewN q) (fun _ k _ => (intOf k + 1 - n).toNat)
      case atStart => exact ⟨0, x, by omega, by simp, rfl, by simp, rfl⟩
      case round =>
        obtain ⟨j, lv, hj, rfl, rfl, hlv, rfl⟩ := hrel
        by_cases hjm : j < m
        · obtain ⟨t, ht⟩ : ∃ t : Nat, (n : Int) + m - 1 - j = ((n + t : Nat) : Int) := ⟨m - 1 - j, by omega⟩
          have htm : t = m - 1 - j := by omega
          rw [ht]
          obtain ⟨b, off, rfl, hc1⟩ := hB1.rd.at_ (k := n + t) (by omega)
          have hg : gb (xs ++ nb x m) (n + t) = lv % 256 := by
            rw [hlv, ← nb_gb x m j hjm, ← htm, ← hx.len]
            rw [gb_get _ _ (by simp [nb_length]; omega), gb_get _ _ (by rw [nb_length]; omega), List.getElem_append_right (by omega)]
            simp
          rw [hg] at hc1
          have hll : lv < 18446744073709551616 := by rw [hlv]; exact Nat.lt_of_le_of_lt (Nat.div_le_self _ _) hx64
          have hne : (((lv % 256 : Nat) : Int) != (lv : Int) % 256) = false := by simp
          have HLV := Lib.hid hlv
          have HTt := Lib.hid ht
          have hnt : (n : Int) ≤ ((n + t : Nat) : Int) := by omega
          have htl : t < m := by omega
          clear hg hlv ht htm
          go_wp2
          go_roundw
          case rel =>
            have ht := HTt.out
            have e : lv / 256 = x / 256 ^ (j + 1) := by rw [HLV.out, Nat.div_div_eq_div_mul, Nat.pow_succ]
            exact ⟨j + 1, lv / 256, by omega, by congr 1; omega, by simp, e, trivial⟩
          case measure => simp [intOf]; omega
        · obtain rfl : m = j := by omega
          have e0 : ((n : Int) + m - 1 - m) = (n : Int) - 1 := by omega
          rw [e0]
          have hbo : Below (w.heap.size + 1) (w.alloc (.cells #[.int .i64 1, .int .i64 2, .int .i64 4, .int .i64 8] 3)) (w1.drewN q) := below_drewN (hb.trans (hb1.mono hso)) q
          clear hlv e0
          by_cases h8 : m = 8
          · obtain rfl : m = 8 := h8
            obtain rfl : y = x := by
              have := HBX.out
              rw [Nat.mod_eq_of_lt (by have e : (256 : Nat) ^ 8 = 18446744073709551616 := by decide
                                       omega)] at this
              exact this
            go_wp2
            go_roundw
            case rel => exact ⟨i + 1, by omega, by go_num, hbo⟩
            case measure => simp [intOf]; omega
          · have hm3 : m = 1 ∨ m = 2 ∨ m = 4 := by have := HS.out; simp [szB] at this; omega
            have w1' : IntKind.u64.wrap 256 = 256 := by rw [IntKind.wrap_u64]; decide
            have w2' : IntKind.u64.wrap 65536 = 65536 := by rw [IntKind.wrap_u64]; decide
            have w4' : IntKind.u64.wrap 4294967296 = 4294967296 := by rw [IntKind.wrap_u64]; decide
            clear h8
            rcases hm3 with rfl | rfl | rfl
            · obtain rfl : y = x % 256 := by simpa using HBX.out
              go_wp2
              go_roundw
              case rel => exact ⟨i + 1, by omega, by go_num, hbo⟩
              case measure => simp [intOf]; omega
            · obtain rfl : y = x % 65536 := by simpa using HBX.out
              go_wp2
              go_roundw
              case rel => exact ⟨i + 1, by omega, by go_num, hbo⟩
              case measure => simp [intOf]; omega
            · obtain rfl : y = x % 4294967296 := by simpa using HBX.out
              go_wp2
              go_roundw
              case rel => exact ⟨i + 1, by omega, by go_num, hbo⟩
              case measure => simp [intOf]; omega
    · obtain rfl : i = 4 := by omega
      go_wp2_with (go_at_call 26; refine (works01_any _).mono ?_; rintro e w1 ⟨rfl, hb2⟩)
      go_ret
      have t1 : Below w.heap.size w wr := ((Below.refl _ _).alloc (Nat.le_refl _) _).trans (hb.mono (by omega))
      exact ⟨rfl, t1.trans (hb2.mono t1.size)⟩

theorem walk (A : Option Addr) (n c : Nat) (xs : List UInt8) (x : Nat) (w : World) (hx : Rd w A n xs) (_ : n ≤ c) (_ : c ≤ 9223372036854775807) (hx64 : x < 18446744073709551616) :
    Calls Try.prog 9 #[.slice A n c, .int .u64 (x : Int)] w fun e w' => e = .returned (.bool true) ∧ Below w.heap.size w w' := by
  by_cases h : (4096 : Int) < (n : Int)
  · exact walk_big A n c x w h
  · exact walk_go A n c xs x w hx (by omega) hx64

set_option maxRecDepth 100000 in
theorem lifted (os : Os) (started : os.Started) (H : Type) (enc : TypeId × Value → H) :
    ReturnsInHanded {} Try.checked os 9 .any (Rows.octetBackSpec.pre6 enc Try.prog Try.f9 Rows.octetBackRow.domain false) (Rows.octetBackSpec.post enc Try.prog Try.f9 false true false false) := by
  refine returnsInHanded_of_change (C := Try.checked) own started (by kernel_rfl) Try.func9
    (ChangeSpec.witness6 (enc := enc) (C := Try.checked) false ⟨#[], #[.slice none 0 0, .int .u64 0], []⟩ 8 (by kernel_rfl) (by kernel_rfl) (by kernel_rfl) (by kernel_rfl)) ?_
  intro W base args ds gs before hval0 hW _ _
  have hval : ∀ (j : Nat) t v, Try.f9.params[j]? = some t → args[j]? = some v → Value.okWide Try.prog W .any base t v := hval0
  have hW' := hW
  obtain ⟨p, q, hA0, hV, rfl, _, _⟩ := hW
  have hA : DataW.TrodAll enc Try.prog W 0 (fun _ => true) true Try.f9.params.toList args.toList ds p := hA0
  have hA1 := hA
  rw [Try.params9] at hA hval
  obtain ⟨v0, vs0, d0, ds0, p0, q0, hargs, rfl, rfl, h0, r0⟩ := trodAll_cons hA
  obtain ⟨v1, vs1, d1, ds1, p1, q1, rfl, rfl, rfl, h1, r1⟩ := trodAll_cons r0
  obtain ⟨rfl, rfl, rfl⟩ := trodAll_nil r1
  obtain rfl : args = #[v0, v1] := by cases args; simp_all
  obtain ⟨rfl, rfl⟩ := trodVars_none hV
  obtain ⟨A0, n0, c0, xs0, rfl, hx0, hn0, hc0⟩ := bytes_of (hval 0 22 v0 rfl rfl) h0
  obtain ⟨a1, rfl, hi1⟩ := u64_of (hval 1 25 v1 rfl rfl) h1
  clear hA0 hval0
  simp only [List.append_nil] at hW' hA1
  refine (walk A0 n0 c0 xs0 a1 W hx0 hn0 hc0 hi1).mono fun e W' ⟨he, bel⟩ => ?_
  subst he
  exact ⟨_, rfl, post_law (by kernel_rfl) rfl rfl (by rw [Try.params9]; intro t ht; simp at ht; rcases ht with rfl | rfl <;> exact ⟨by kernel_rfl, of_decide_eq_true (by kernel_rfl)⟩) hW' hA1 bel⟩

theorem closed : joinedFacts Try.prog 9 Try.f9 Rows.octetBackSpec Rows.octetBackRow = true :=
  closed_of (by kernel_rfl) laidOut mapsRowed0 (by kernel_rfl) (by kernel_rfl) (by kernel_rfl) stops0 (by kernel_rfl) knobs0 (by kernel_rfl) (by kernel_rfl) (by kernel_rfl) (by kernel_rfl) (by kernel_rfl) (by kernel_rfl) (by kernel_rfl)
    (by kernel_rfl) (by kernel_rfl) (by kernel_rfl) (by kernel_rfl) (by kernel_rfl) (by kernel_rfl) (by kernel_rfl) (by kernel_rfl) heard0 enter0 final0 rfl make0 rfl rfl rfl (by kernel_rfl) (by kernel_rfl) (by kernel_rfl)
theorem named : Try.prog.funcNamed Rows.octetBackRow.func = some 9 := by kernel_rfl
theorem inst : Try.f9.isInstance Try.prog Rows.octetBackRow.origin Rows.octetBackRow.targs := of_decide_eq_true (by kernel_rfl)
theorem wrap : Try.f9.isWrapper Try.prog Rows.octetBackRow.wrapper Rows.octetBackRow.mainSum := by
  unfold Func.isWrapper
  rw [if_neg (by decide +kernel)]
  exact ⟨rfl, rfl⟩
theorem over : Rows.octetBackRow.holds Try.pinned (OpenSpec.ofChange Rows.octetBackSpec) :=
  OpenClaim.holds_of_wide 9 Try.f9 rfl rfl rfl rfl rfl rfl rfl ⟨rfl, rfl, rfl, rfl, rfl⟩ rfl rfl rfl rfl rfl named Try.func9 closed inst wrap
    (fun os started H enc _ => lifted os started H enc)

/-- The statement. -/
theorem proved : Rows.OctetBackSaid := over
#print axioms proved
end Go.Proofs.Ythndlhflkbidiaa.octetBack
