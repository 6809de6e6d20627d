/-
  octet.Put: of two numbers that a size has room for the one that is less has the bytes that come first. For all numbers. No condition.
-/
import Derived.Test.YthndlhflkbidiaaNumsP
import Derived.Test.YthndlhflkbidiaaRowW
import Derived.Test.YthndlhflkbidiaaOpen
namespace Go.Proofs.Ythndlhflkbidiaa.octetOrder
open Go.Proofs.Ythndlhflkbidiaa
open Go.ChangeShapes Go.WideShapes Go.ChangeAt Go.RowKit

theorem div0 {x m : Nat} (h : x < 256 ^ m) : ((x : Int) / 2 ^ (8 * m) != 0) = false := by
  have e : (x : Int) / 2 ^ (8 * m) = ((x / 2 ^ (8 * m) : Nat) : Int) := by simp
  rw [e, two256, Nat.div_eq_of_lt h]; rfl
theorem div1 {x m : Nat} (h : ¬ x < 256 ^ m) : ((x : Int) / 2 ^ (8 * m) != 0) = true := by
  have e : (x : Int) / 2 ^ (8 * m) = ((x / 2 ^ (8 * m) : Nat) : Int) := by simp
  have hp : 0 < 256 ^ m := Nat.pow_pos (by omega)
  have h1 : 0 < x / 256 ^ m := Nat.div_pos (by omega) hp
  rw [e, two256]
  simp only [bne_iff_ne, ne_eq]
  omega
theorem less_cons (a b : UInt8) (xs ys : List UInt8) : Op.bytesLess (a :: xs) (b :: ys) = (decide (a < b) || (a == b && Op.bytesLess xs ys)) := by simp [Op.bytesLess]
theorem less_be : ∀ (xs ys : List UInt8), xs.length = ys.length → Op.bytesLess xs ys = decide (be xs < be ys)
  | [], [], _ => by simp [Op.bytesLess, be]
  | a :: xs, b :: ys, h => by
    have hl : xs.length = ys.length := by simpa using h
    rw [less_cons, less_be xs ys hl, be_cons, be_cons, ← hl]
    have h1 := be_lt xs
    have h2 := be_lt ys
    rw [← hl] at h2
    have hab : (a < b) = (a.toNat < b.toNat) := by rw [UInt8.lt_iff_toNat_lt]
    rw [Bool.eq_iff_iff]
    simp only [Bool.or_eq_true, decide_eq_true_eq, Bool.and_eq_true, beq_iff_eq, hab]
    constructor
    · rintro (h3 | ⟨rfl, h3⟩)
      · have : (a.toNat + 1) * 256 ^ xs.length ≤ b.toNat * 256 ^ xs.length := Nat.mul_le_mul_right _ h3
        rw [Nat.add_mul] at this
        omega
      · omega
    · intro h3
      rcases Nat.lt_trichotomy a.toNat b.toNat with h4 | h4 | h4
      · exact .inl h4
      · have : a = b := UInt8.toNat_inj.1 h4
        subst this
        exact .inr ⟨rfl, by omega⟩
      · have : (b.toNat + 1) * 256 ^ xs.length ≤ a.toNat * 256 ^ xs.length := Nat.mul_le_mul_right _ h4
        rw [Nat.add_mul] at this
        omega
theorem less_nb (x y m : Nat) (hx : x < 256 ^ m) (hy : y < 256 ^ m) : Op.bytesLess (nb x m) (nb y m) = decide (x < y) := by
  rw [less_be _ _ (by rw [nb_length, nb_length]), be_nb, be_nb, Nat.mod_eq_of_lt hx, Nat.mod_eq_of_lt hy]

def OrdRel (w : World) (i : Value) (wr : World) : Prop := ∃ k : Nat, k ≤ 4 ∧ i = .int .i64 k ∧ Below (w.heap.size + 1) (w.alloc (.cells #[.int .i64 1, .int .i64 2, .int .i64 4, .int .i64 8] 3)) wr

set_option maxHeartbeats 1600000 in
set_option maxRecDepth 100000 in
theorem walk (x y : Nat) (w : World) (hx64 : x < 18446744073709551616) (hy64 : y < 18446744073709551616) :
    Calls Try.prog 11 #[.int .u64 (x : Int), .int .u64 (y : Int)] w fun e w' => e = .returned (.bool true) ∧ Below w.heap.size w w' := by
  go_enter Try.func11, Try.ntmps11
  go_wp2
  go_loopw [6] (fun i wr => OrdRel w i wr) (fun i _ => 4 - (intOf i).toNat)
  case atStart => exact ⟨0, by omega, rfl, Below.refl _ _⟩
  case round =>
    obtain ⟨i, hi, rfl, hb⟩ := hrel
    by_cases hlt : i < 4
    · have hlt' : (i : Int) < 4 := by omega
      have hcell := (hb.cell (p := ⟨w.heap.size, i, none⟩) (by simp)).trans (sz_cells w i hlt)
      obtain ⟨hs, hm1, hm8⟩ := sz_ok i
      obtain ⟨m, hm⟩ : ∃ m, m = sz i := ⟨_, rfl⟩
      rw [← hm] at hs hm1 hm8 hcell
      have HM := Lib.hid hm
      have HS := Lib.hid hs
      clear hm hs
      obtain ⟨wo, rfl⟩ : ∃ wo : World, wo = wr := ⟨_, rfl⟩
      have hso := hb.size
      simp at hso
      by_cases hgo : m = 8 ∨ (x < 256 ^ m ∧ y < 256 ^ m)
      · have hbl := less_nb x y m (by rcases hgo with rfl | h; exact hx64; exact h.1) (by rcases hgo with rfl | h; exact hy64; exact h.2)
        have HBL := Lib.hid hbl
        clear hbl
        have hm : m = 8 ∨ m < 8 ∧ ((x : Int) / 2 ^ (8 * m) != 0) = false ∧ ((y : Int) / 2 ^ (8 * m) != 0) = false := by
          rcases hgo with h | ⟨h1, h2⟩
          · exact .inl h
          · by_cases h8 : m = 8
            · exact .inl h8
            · exact .inr ⟨by omega, div0 h1, div0 h2⟩
        clear hgo
        rcases hm with h8 | ⟨h8, hdx, hdy⟩
        · have h8' : ¬ (m : Int) < 8 := by omega
          clear h8
          go_wp2
          go_region_with (first
            | (go_at_call_of 31 (Value.int IntKind.u64 (x : Int)); refine (put_yes none 0 0 [] x m _ (Rd.nil _ _) HS.out (by omega)).mono ?_; rintro e w1 ⟨A1, c1, rfl, hB1, hb1⟩; simp only [Nat.zero_add, List.nil_append] at hB1; have hcv1 := run_convert_rd hB1.rd c1)
            | (go_at_call_of 31 (Value.int IntKind.u64 (y : Int)); refine (put_yes none 0 0 [] y m _ (Rd.nil _ _) HS.out (by omega)).mono ?_; rintro e w2 ⟨A2, c2, rfl, hB2, hb2⟩; simp only [Nat.zero_add, List.nil_append] at hB2; have hcv2 := run_convert_rd hB2.rd c2; have hcv1b := run_convert_rd (hB1.below hb2).rd c1))
          all_goals
            have hbl := HBL.out
            generalize decide (x < y) = bb at *
            have hbo : Below (w.heap.size + 1) (w.alloc (.cells #[.int .i64 1, .int .i64 2, .int .i64 4, .int .i64 8] 3)) w2 := (below_drewN hb 1).trans ((hb1.mono hso).trans (hb2.mono (Nat.le_trans hso hb1.size)))
            clear hcv1 hcv2 hcv1b hB1 hB2
            rw [hbl]
            cases bb
            all_goals
              go_wp2
              go_roundw
              case rel => exact ⟨i + 1, by omega, by go_num, hbo⟩
              case measure => simp [intOf]; omega
        · have h8' : (m : Int) < 8 := by omega
          clear h8
          go_wp2
          go_region_with (first
            | (go_at_call_of 31 (Value.int IntKind.u64 (x : Int)); refine (put_yes none 0 0 [] x m _ (Rd.nil _ _) HS.out (by omega)).mono ?_; rintro e w1 ⟨A1, c1, rfl, hB1, hb1⟩; simp only [Nat.zero_add, List.nil_append] at hB1; have hcv1 := run_convert_rd hB1.rd c1)
            | (go_at_call_of 31 (Value.int IntKind.u64 (y : Int)); refine (put_yes none 0 0 [] y m _ (Rd.nil _ _) HS.out (by omega)).mono ?_; rintro e w2 ⟨A2, c2, rfl, hB2, hb2⟩; simp only [Nat.zero_add, List.nil_append] at hB2; have hcv2 := run_convert_rd hB2.rd c2; have hcv1b := run_convert_rd (hB1.below hb2).rd c1))
          all_goals
            have hbl := HBL.out
            generalize decide (x < y) = bb at *
            have hbo : Below (w.heap.size + 1) (w.alloc (.cells #[.int .i64 1, .int .i64 2, .int .i64 4, .int .i64 8] 3)) w2 := (below_drewN hb 1).trans ((hb1.mono hso).trans (hb2.mono (Nat.le_trans hso hb1.size)))
            clear hcv1 hcv2 hcv1b hB1 hB2
            rw [hbl]
            cases bb
            all_goals
              go_wp2
              go_roundw
              case rel => exact ⟨i + 1, by omega, by go_num, hbo⟩
              case measure => simp [intOf]; omega
      · have h8 : (m : Int) < 8 := by omega
        have hxy : ((x : Int) / 2 ^ (8 * m) != 0) = true ∨ ((x : Int) / 2 ^ (8 * m) != 0) = false ∧ ((y : Int) / 2 ^ (8 * m) != 0) = true := by
          by_cases h1 : x < 256 ^ m
          · exact .inr ⟨div0 h1, div1 (by omega)⟩
          · exact .inl (div1 (by omega))
        clear hgo
        rcases hxy with h1 | ⟨h1, h2⟩
        all_goals
          go_wp2
          go_roundw
          case rel => exact ⟨i + 1, by omega, by go_num, hb⟩
          case measure => simp [intOf]; omega
    · obtain rfl : i = 4 := by omega
      go_wp2_with (go_at_call 26; refine (works01_any _).mono ?_; rintro e w1 ⟨rfl, hb2⟩)
      go_ret
      have t1 : Below w.heap.size w wr := ((Below.refl _ _).alloc (Nat.le_refl _) _).trans (hb.mono (by omega))
      exact ⟨rfl, t1.trans (hb2.mono t1.size)⟩

set_option maxRecDepth 100000 in
theorem lifted (os : Os) (started : os.Started) (H : Type) (enc : TypeId × Value → H) :
    ReturnsInHanded {} Try.checked os 11 .any (Rows.octetOrderSpec.pre6 enc Try.prog Try.f11 Rows.octetOrderRow.domain false) (Rows.octetOrderSpec.post enc Try.prog Try.f11 false true false false) := by
  refine returnsInHanded_of_change (C := Try.checked) own started (by kernel_rfl) Try.func11
    (ChangeSpec.witness6 (enc := enc) (C := Try.checked) false ⟨#[], #[.int .u64 0, .int .u64 0], []⟩ 8 (by kernel_rfl) (by kernel_rfl) (by kernel_rfl) (by kernel_rfl)) ?_
  intro W base args ds gs before hval0 hW _ _
  have hval : ∀ (j : Nat) t v, Try.f11.params[j]? = some t → args[j]? = some v → Value.okWide Try.prog W .any base t v := hval0
  have hW' := hW
  obtain ⟨p, q, hA0, hV, rfl, _, _⟩ := hW
  have hA : DataW.TrodAll enc Try.prog W 0 (fun _ => true) true Try.f11.params.toList args.toList ds p := hA0
  have hA1 := hA
  rw [Try.params11] at hA hval
  obtain ⟨v0, vs0, d0, ds0, p0, q0, hargs, rfl, rfl, h0, r0⟩ := trodAll_cons hA
  obtain ⟨v1, vs1, d1, ds1, p1, q1, rfl, rfl, rfl, h1, r1⟩ := trodAll_cons r0
  obtain ⟨rfl, rfl, rfl⟩ := trodAll_nil r1
  obtain rfl : args = #[v0, v1] := by cases args; simp_all
  obtain ⟨rfl, rfl⟩ := trodVars_none hV
  obtain ⟨a0, rfl, hi0⟩ := u64_of (hval 0 25 v0 rfl rfl) h0
  obtain ⟨a1, rfl, hi1⟩ := u64_of (hval 1 25 v1 rfl rfl) h1
  clear hA0 hval0
  simp only [List.append_nil] at hW' hA1
  refine (walk a0 a1 W hi0 hi1).mono fun e W' ⟨he, bel⟩ => ?_
  subst he
  exact ⟨_, rfl, post_law (by kernel_rfl) rfl rfl (by rw [Try.params11]; intro t ht; simp at ht; subst ht; exact ⟨by kernel_rfl, of_decide_eq_true (by kernel_rfl)⟩) hW' hA1 bel⟩

theorem closed : joinedFacts Try.prog 11 Try.f11 Rows.octetOrderSpec Rows.octetOrderRow = true :=
  closed_of (by kernel_rfl) laidOut mapsRowed0 (by kernel_rfl) (by kernel_rfl) (by kernel_rfl) stops0 (by kernel_rfl) knobs0 (by kernel_rfl) (by kernel_rfl) (by kernel_rfl) (by kernel_rfl) (by kernel_rfl) (by kernel_rfl) (by kernel_rfl)
    (by kernel_rfl) (by kernel_rfl) (by kernel_rfl) (by kernel_rfl) (by kernel_rfl) (by kernel_rfl) (by kernel_rfl) (by kernel_rfl) heard0 enter0 final0 rfl make0 rfl rfl rfl (by kernel_rfl) (by kernel_rfl) (by kernel_rfl)
theorem named : Try.prog.funcNamed Rows.octetOrderRow.func = some 11 := by kernel_rfl
theorem inst : Try.f11.isInstance Try.prog Rows.octetOrderRow.origin Rows.octetOrderRow.targs := of_decide_eq_true (by kernel_rfl)
theorem wrap : Try.f11.isWrapper Try.prog Rows.octetOrderRow.wrapper Rows.octetOrderRow.mainSum := by
  unfold Func.isWrapper
  rw [if_neg (by decide +kernel)]
  exact ⟨rfl, rfl⟩
theorem over : Rows.octetOrderRow.holds Try.pinned (OpenSpec.ofChange Rows.octetOrderSpec) :=
  OpenClaim.holds_of_wide 11 Try.f11 rfl rfl rfl rfl rfl rfl rfl ⟨rfl, rfl, rfl, rfl, rfl⟩ rfl rfl rfl rfl rfl named Try.func11 closed inst wrap
    (fun os started H enc _ => lifted os started H enc)

/-- The statement. -/
theorem proved : Rows.OctetOrderSaid := over
#print axioms proved
end Go.Proofs.Ythndlhflkbidiaa.octetOrder
