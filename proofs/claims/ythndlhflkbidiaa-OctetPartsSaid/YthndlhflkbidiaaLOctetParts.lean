/-
  octet.Cut: a piece is its two parts, cut anywhere; a piece that is not there has no bytes. For every slice of bytes and all ints. No condition.
-/
import Derived.Test.YthndlhflkbidiaaNumsP
import Derived.Test.YthndlhflkbidiaaRowW
import Derived.Test.YthndlhflkbidiaaOpenP
namespace Go.Proofs.Ythndlhflkbidiaa.octetParts
open Go.Proofs.Ythndlhflkbidiaa
open Go.ChangeShapes Go.WideShapes Go.ChangeAt Go.RowKit

def pv (A : Option Addr) (n c : Nat) (a m q : Int) : Value := .agg #[.slice A n c, .int .i64 a, .int .i64 m, .int .i64 q]

theorem walk_big (A : Option Addr) (n c : Nat) (a m q : Int) (w : World) (h : (65536 : Int) < (n : Int)) :
    Calls Try.prog 12 #[.agg #[.slice A n c, .int .i64 a, .int .i64 m, .int .i64 q]] w fun e w' => e = .returned (.bool true) ∧ Below w.heap.size w w' := by
  go_enter Try.func12, Try.ntmps12
  go_wp2_with (go_at_call 26; refine (works01_any _).mono ?_; rintro e w1 ⟨rfl, hb⟩)
  go_ret
  exact ⟨rfl, ((Below.refl _ _).alloc (Nat.le_refl _) _).trans (hb.mono (by simp))⟩

theorem walk_no (A : Option Addr) (n c : Nat) (a m q : Int) (w : World) (h : (n : Int) ≤ 65536) (hw : wiB n a m = false) (hna : -9223372036854775808 ≤ a ∧ a ≤ 9223372036854775807) (hnm : -9223372036854775808 ≤ m ∧ m ≤ 9223372036854775807) :
    Calls Try.prog 12 #[.agg #[.slice A n c, .int .i64 a, .int .i64 m, .int .i64 q]] w fun e w' => e = .returned (.bool true) ∧ Below w.heap.size w w' := by
  have h' : a < 0 ∨ (0 ≤ a ∧ m < 0) ∨ (0 ≤ a ∧ 0 ≤ m ∧ (n : Int) < a) ∨ (0 ≤ a ∧ 0 ≤ m ∧ a ≤ n ∧ (n : Int) - a < m) := by simp [wiB] at hw; omega
  have HW := Lib.hid hw
  clear hw
  rcases h' with h1 | ⟨h1, h2⟩ | ⟨h1, h2, h3⟩ | ⟨h1, h2, h3, h4⟩
  all_goals
    go_enter Try.func12, Try.ntmps12
    go_wp2_with (first
      | (go_at_call 26; refine (works01_any _).mono ?_; rintro e w1 ⟨rfl, hb⟩)
      | (go_at_call 35; refine (cut_no _ _ _ _ _ _ HW.out (by omega)).mono ?_; rintro e w' ⟨rfl, rfl⟩))
    go_ret
    exact ⟨rfl, ((Below.refl _ _).alloc (Nat.le_refl _) _).trans (hb.mono (by simp))⟩

theorem parts_eq (xs : List UInt8) (a k r : Nat) (h : r ≤ k) : (xs.drop a).take r ++ (xs.drop (a + r)).take (k - r) = (xs.drop a).take k := by
  rw [← List.drop_drop]
  have e : k = r + (k - r) := by omega
  conv => rhs; rw [e, List.take_add]

theorem cut_at (A : Option Addr) (n c : Nat) (xs : List UInt8) (ai mi : Int) (a m : Nat) (w : World) (ea : ai = a) (em : mi = m) (hx : Rd w A n xs) (h : a + m ≤ n) (hnc : n ≤ c) (hc : c ≤ 9223372036854775807) (hn : n ≤ 140737488351000) :
    Calls Try.prog 35 #[.slice A n c, .int .i64 ai, .int .i64 mi] w fun e w' =>
      ∃ A2 c2, e = .returned (.tuple #[.slice A2 m c2, .bool true]) ∧ Bo w' w.heap.size A2 m c2 ((xs.drop a).take m) ∧ Below w.heap.size w w' := by
  subst ea em
  exact cut_yes A n c xs a m w hx h hnc hc hn

set_option maxHeartbeats 1600000 in
theorem walk_yes (A : Option Addr) (n c : Nat) (xs : List UInt8) (a k : Nat) (q : Int) (w : World) (hx : Rd w A n xs) (hnc : n ≤ c) (hc : c ≤ 9223372036854775807) (h : (n : Int) ≤ 65536) (hak : a + k ≤ n)
    (hq : -9223372036854775808 ≤ q ∧ q ≤ 9223372036854775807) (r : Nat) (hr : r ≤ k) (hcase : (0 ≤ q ∧ q % ((k : Int) + 1) = r) ∨ (q < 0 ∧ q.tmod ((k : Int) + 1) = 0 ∧ r = 0) ∨ (q < 0 ∧ q.tmod ((k : Int) + 1) < 0 ∧ q.tmod ((k : Int) + 1) + k + 1 = r)) :
    Calls Try.prog 12 #[.agg #[.slice A n c, .int .i64 (a : Int), .int .i64 (k : Int), .int .i64 q]] w fun e w' => e = .returned (.bool true) ∧ Below w.heap.size w w' := by
  have HT := Lib.hid (show eqB ((xs.drop a).take k) ((xs.drop a).take k) = true by simp [eqB])
  have HP := Lib.hid (parts_eq xs a k r hr)
  have t0 : Below w.heap.size w (w.alloc (.cells #[.slice A n c, .int .i64 (a : Int), .int .i64 (k : Int), .int .i64 q] 56)) := (Below.refl _ _).alloc (Nat.le_refl _) _
  have hx0 : Rd (w.alloc (.cells #[.slice A n c, .int .i64 (a : Int), .int .i64 (k : Int), .int .i64 q] 56)) A n xs := hx.alloc _
  go_enter Try.func12, Try.ntmps12
  go_wp2_with fail
  refine (cut_yes _ _ _ _ a k _ hx0 hak hnc hc (by omega)).mono ?_
  rintro e w1 ⟨A1, c1, rfl, hB1, hb1⟩
  have hx1 : Rd w1 A n xs := hx0.below hb1
  have hf : ∀ i, i < 4 → w1.cell? ⟨w.heap.size, i, none⟩ = (w.alloc (.cells #[.slice A n c, .int .i64 (a : Int), .int .i64 (k : Int), .int .i64 q] 56)).cell? ⟨w.heap.size, i, none⟩ := fun i _ => hb1.cell (by simp)
  have f0 := (hf 0 (by omega)).trans (World.cell?_alloc_new _ _ _ _)
  have f1 := (hf 1 (by omega)).trans (World.cell?_alloc_new _ _ _ _)
  have f2 := (hf 2 (by omega)).trans (World.cell?_alloc_new _ _ _ _)
  have f3 := (hf 3 (by omega)).trans (World.cell?_alloc_new _ _ _ _)
  simp only [List.getElem?_toArray, List.getElem?_cons_zero, List.getElem?_cons_succ] at f0 f1 f2 f3
  clear hf
  have t1 : Below w.heap.size w w1 := t0.trans (hb1.mono (by simp))
  rcases hcase with ⟨h1, h2⟩ | ⟨h1, h2, h3⟩ | ⟨h1, h2, h3⟩
  · have HE := Lib.hid h2
    have hlo : 0 ≤ q % ((k : Int) + 1) := by omega
    clear h2
    go_wp2_with fail
    rw [HE.out]
    refine (cut_at A n c xs _ _ a r _ rfl rfl hx1 (by omega) hnc hc (by omega)).mono ?_
    rintro e w2 ⟨A2, c2, rfl, hB2, hb2⟩
    have hx2 : Rd w2 A n xs := hx1.below hb2
    have g0 := (hb2.cell (p := ⟨w.heap.size, 0, none⟩) (World.block_lt_of_cell? w1 _ f0)).trans f0
    have g1 := (hb2.cell (p := ⟨w.heap.size, 1, none⟩) (World.block_lt_of_cell? w1 _ f1)).trans f1
    have g2 := (hb2.cell (p := ⟨w.heap.size, 2, none⟩) (World.block_lt_of_cell? w1 _ f2)).trans f2
    clear f0 f1 f2 f3
    go_wp2_with fail
    refine (cut_at A n c xs _ _ (a + r) (k - r) _ (by omega) (by omega) hx2 (by omega) hnc hc (by omega)).mono ?_
    rintro e w3 ⟨A3, c3, rfl, hB3, hb3⟩
    have s1 := hb1.size
    have s2 := hb2.size
    have s3 := hb3.size
    go_wp2_with (at_builtin; refine wpList_bytes R22 _ rfl (.tmp 103) (.tmp 104) rfl w1.heap.size rfl rfl (hB2.below hb3) hB3.rd (by omega) (by omega) ?_; intro A4 c4 w4 hB4 hg4 hor4)
    have hb4 := below_grown (hB2.below hb3) hg4 (by omega)
    rw [HP.out, show r + (k - r) = k by omega] at hB4
    have t3 : Below w1.heap.size w1 w4 := hb2.trans ((hb3.mono s2).trans hb4)
    clear hg4 hor4
    go_wp2_with fail
    refine (eq_any _ _ _ _ _ _ _ _ _ hB4.rd (hB1.rd.below t3) (by omega)).mono ?_
    rintro e w' ⟨rfl, q5, rfl⟩
    rw [HT.out]
    go_wp2_with fail
    refine (works01_any _).mono ?_
    rintro e w5 ⟨rfl, hb5⟩
    go_wp2
    go_ret
    have t4 : Below w.heap.size w (w4.drewN q5) := below_drewN (t1.trans (t3.mono t1.size)) q5
    exact ⟨rfl, t4.trans (hb5.mono t4.size)⟩
  · have HE := Lib.hid (show q.tmod ((k : Int) + 1) = (r : Int) by omega)
    have hlo : 0 ≤ q.tmod ((k : Int) + 1) := by omega
    clear h2 h3
    go_wp2_with fail
    rw [HE.out]
    refine (cut_at A n c xs _ _ a r _ rfl rfl hx1 (by omega) hnc hc (by omega)).mono ?_
    rintro e w2 ⟨A2, c2, rfl, hB2, hb2⟩
    have hx2 : Rd w2 A n xs := hx1.below hb2
    have g0 := (hb2.cell (p := ⟨w.heap.size, 0, none⟩) (World.block_lt_of_cell? w1 _ f0)).trans f0
    have g1 := (hb2.cell (p := ⟨w.heap.size, 1, none⟩) (World.block_lt_of_cell? w1 _ f1)).trans f1
    have g2 := (hb2.cell (p := ⟨w.heap.size, 2, none⟩) (World.block_lt_of_cell? w1 _ f2)).trans f2
    clear f0 f1 f2 f3
    go_wp2_with fail
    refine (cut_at A n c xs _ _ (a + r) (k - r) _ (by omega) (by omega) hx2 (by omega) hnc hc (by omega)).mono ?_
    rintro e w3 ⟨A3, c3, rfl, hB3, hb3⟩
    have s1 := hb1.size
    have s2 := hb2.size
    have s3 := hb3.size
    go_wp2_with (at_builtin; refine wpList_bytes R22 _ rfl (.tmp 103) (.tmp 104) rfl w1.heap.size rfl rfl (hB2.below hb3) hB3.rd (by omega) (by omega) ?_; intro A4 c4 w4 hB4 hg4 hor4)
    have hb4 := below_grown (hB2.below hb3) hg4 (by omega)
    rw [HP.out, show r + (k - r) = k by omega] at hB4
    have t3 : Below w1.heap.size w1 w4 := hb2.trans ((hb3.mono s2).trans hb4)
    clear hg4 hor4
    go_wp2_with fail
    refine (eq_any _ _ _ _ _ _ _ _ _ hB4.rd (hB1.rd.below t3) (by omega)).mono ?_
    rintro e w' ⟨rfl, q5, rfl⟩
    rw [HT.out]
    go_wp2_with fail
    refine (works01_any _).mono ?_
    rintro e w5 ⟨rfl, hb5⟩
    go_wp2
    go_ret
    have t4 : Below w.heap.size w (w4.drewN q5) := below_drewN (t1.trans (t3.mono t1.size)) q5
    exact ⟨rfl, t4.trans (hb5.mono t4.size)⟩
  · have HE := Lib.hid h3
    have hlo : -(k : Int) - 1 ≤ q.tmod ((k : Int) + 1) := by omega
    clear h3
    go_wp2_with fail
    rw [HE.out]
    refine (cut_at A n c xs _ _ a r _ rfl rfl hx1 (by omega) hnc hc (by omega)).mono ?_
    rintro e w2 ⟨A2, c2, rfl, hB2, hb2⟩
    have hx2 : Rd w2 A n xs := hx1.below hb2
    have g0 := (hb2.cell (p := ⟨w.heap.size, 0, none⟩) (World.block_lt_of_cell? w1 _ f0)).trans f0
    have g1 := (hb2.cell (p := ⟨w.heap.size, 1, none⟩) (World.block_lt_of_cell? w1 _ f1)).trans f1
    have g2 := (hb2.cell (p := ⟨w.heap.size, 2, none⟩) (World.block_lt_of_cell? w1 _ f2)).trans f2
    clear f0 f1 f2 f3
    go_wp2_with fail
    refine (cut_at A n c xs _ _ (a + r) (k - r) _ (by omega) (by omega) hx2 (by omega) hnc hc (by omega)).mono ?_
    rintro e w3 ⟨A3, c3, rfl, hB3, hb3⟩
    have s1 := hb1.size
    have s2 := hb2.size
    have s3 := hb3.size
    go_wp2_with (at_builtin; refine wpList_bytes R22 _ rfl (.tmp 103) (.tmp 104) rfl w1.heap.size rfl rfl (hB2.below hb3) hB3.rd (by omega) (by omega) ?_; intro A4 c4 w4 hB4 hg4 hor4)
    have hb4 := below_grown (hB2.below hb3) hg4 (by omega)
    rw [HP.out, show r + (k - r) = k by omega] at hB4
    have t3 : Below w1.heap.size w1 w4 := hb2.trans ((hb3.mono s2).trans hb4)
    clear hg4 hor4
    go_wp2_with fail
    refine (eq_any _ _ _ _ _ _ _ _ _ hB4.rd (hB1.rd.below t3) (by omega)).mono ?_
    rintro e w' ⟨rfl, q5, rfl⟩
    rw [HT.out]
    go_wp2_with fail
    refine (works01_any _).mono ?_
    rintro e w5 ⟨rfl, hb5⟩
    go_wp2
    go_ret
    have t4 : Below w.heap.size w (w4.drewN q5) := below_drewN (t1.trans (t3.mono t1.size)) q5
    exact ⟨rfl, t4.trans (hb5.mono t4.size)⟩

theorem walk (A : Option Addr) (n c : Nat) (xs : List UInt8) (a m q : Int) (w : World) (hx : Rd w A n xs) (hnc : n ≤ c) (hc : c ≤ 9223372036854775807)
    (ha : -9223372036854775808 ≤ a ∧ a ≤ 9223372036854775807) (hm : -9223372036854775808 ≤ m ∧ m ≤ 9223372036854775807) (hq : -9223372036854775808 ≤ q ∧ q ≤ 9223372036854775807) :
    Calls Try.prog 12 #[.agg #[.slice A n c, .int .i64 a, .int .i64 m, .int .i64 q]] w fun e w' => e = .returned (.bool true) ∧ Below w.heap.size w w' := by
  by_cases h : (65536 : Int) < (n : Int)
  · exact walk_big A n c a m q w h
  · by_cases hw : wiB n a m = true
    · have hw' := hw
      simp [wiB] at hw'
      obtain ⟨i, rfl⟩ := Int.eq_ofNat_of_zero_le hw'.1
      obtain ⟨k, rfl⟩ := Int.eq_ofNat_of_zero_le hw'.2.1
      have hik : i + k ≤ n := by omega
      have hk0 : (0 : Int) < (k : Int) + 1 := by omega
      rcases Int.lt_or_le q 0 with hq0 | hq0
      · have h1 := Int.lt_tmod_of_pos q hk0
        have h2 : q.tmod ((k : Int) + 1) ≤ 0 := by
          have h4 := Int.tmod_nonneg ((k : Int) + 1) (show (0 : Int) ≤ -q by omega)
          rw [Int.neg_tmod] at h4
          omega
        rcases Int.lt_or_le (q.tmod ((k : Int) + 1)) 0 with h3 | h3
        · obtain ⟨r, hr⟩ := Int.eq_ofNat_of_zero_le (show 0 ≤ q.tmod ((k : Int) + 1) + k + 1 by omega)
          exact walk_yes A n c xs i k q w hx hnc hc (by omega) hik hq r (by omega) (.inr (.inr ⟨hq0, h3, hr⟩))
        · exact walk_yes A n c xs i k q w hx hnc hc (by omega) hik hq 0 (by omega) (.inr (.inl ⟨hq0, by omega, rfl⟩))
      · have h1 := Int.emod_nonneg q (show (k : Int) + 1 ≠ 0 by omega)
        have h2 := Int.emod_lt_of_pos q hk0
        obtain ⟨r, hr⟩ := Int.eq_ofNat_of_zero_le h1
        exact walk_yes A n c xs i k q w hx hnc hc (by omega) hik hq r (by omega) (.inl ⟨hq0, hr⟩)
    · exact walk_no A n c a m q w (by omega) (by simpa using hw) ha hm

set_option maxRecDepth 100000 in
theorem lifted (os : Os) (started : os.Started) (H : Type) (enc : TypeId × Value → H) :
    ReturnsInHanded {} Try.checked os 12 .any (Rows.octetPartsSpec.pre6 enc Try.prog Try.f12 Rows.octetPartsRow.domain false) (Rows.octetPartsSpec.post enc Try.prog Try.f12 false true false false) := by
  refine returnsInHanded_of_change (C := Try.checked) own started (by kernel_rfl) Try.func12
    (ChangeSpec.witness6 (enc := enc) (C := Try.checked) false ⟨#[], #[.agg #[.slice none 0 0, .int .i64 0, .int .i64 0, .int .i64 0]], []⟩ 8 (by kernel_rfl) (by kernel_rfl) (by kernel_rfl) (by kernel_rfl)) ?_
  intro W base args ds gs before hval0 hW _ _
  have hval : ∀ (j : Nat) t v, Try.f12.params[j]? = some t → args[j]? = some v → Value.okWide Try.prog W .any base t v := hval0
  have hW' := hW
  obtain ⟨p, q, hA0, hV, rfl, _, _⟩ := hW
  have hA : DataW.TrodAll enc Try.prog W 0 (fun _ => true) true Try.f12.params.toList args.toList ds p := hA0
  have hA1 := hA
  rw [Try.params12] at hA hval
  obtain ⟨v0, vs0, d0, ds0, p0, q0, hargs, rfl, rfl, h0, r0⟩ := trodAll_cons hA
  obtain ⟨rfl, rfl, rfl⟩ := trodAll_nil r0
  obtain rfl : args = #[v0] := by cases args; simp_all
  obtain ⟨rfl, rfl⟩ := trodVars_none hV
  obtain ⟨A0, n0, c0, xs0, i0, m0, q0, rfl, hx0, hn0, hc0, hi0, hm0, hq0⟩ := piece_of (hval 0 56 v0 rfl rfl) h0
  clear hA0 hval0
  simp only [List.append_nil] at hW' hA1
  refine (walk A0 n0 c0 xs0 i0 m0 q0 W hx0 hn0 hc0 hi0 hm0 hq0).mono fun e W' ⟨he, bel⟩ => ?_
  subst he
  exact ⟨_, rfl, post_law (by kernel_rfl) rfl rfl (by rw [Try.params12]; intro t ht; simp at ht; subst ht; exact ⟨by kernel_rfl, of_decide_eq_true (by kernel_rfl)⟩) hW' hA1 bel⟩

theorem closed : joinedFacts Try.prog 12 Try.f12 Rows.octetPartsSpec Rows.octetPartsRow = true :=
  closed_of (by kernel_rfl) laidOut mapsRowed0 (by kernel_rfl) (by kernel_rfl) (by kernel_rfl) stops0 (by kernel_rfl) knobs0 (by kernel_rfl) (by kernel_rfl) (by kernel_rfl) (by kernel_rfl) (by kernel_rfl) (by kernel_rfl) (by kernel_rfl)
    (by kernel_rfl) (by kernel_rfl) (by kernel_rfl) (by kernel_rfl) (by kernel_rfl) (by kernel_rfl) (by kernel_rfl) (by kernel_rfl) heard0 enter0 final0 rfl make0 rfl rfl rfl (by kernel_rfl) (by kernel_rfl) (by kernel_rfl)
theorem named : Try.prog.funcNamed Rows.octetPartsRow.func = some 12 := by kernel_rfl
theorem inst : Try.f12.isInstance Try.prog Rows.octetPartsRow.origin Rows.octetPartsRow.targs := of_decide_eq_true (by kernel_rfl)
theorem wrap : Try.f12.isWrapper Try.prog Rows.octetPartsRow.wrapper Rows.octetPartsRow.mainSum := by
  unfold Func.isWrapper
  rw [if_neg (by decide +kernel)]
  exact ⟨rfl, rfl⟩
theorem over : Rows.octetPartsRow.holds Try.pinned (OpenSpec.ofChange Rows.octetPartsSpec) :=
  OpenClaim.holds_of_wide 12 Try.f12 rfl rfl rfl rfl rfl rfl rfl ⟨rfl, rfl, rfl, rfl, rfl⟩ rfl rfl rfl rfl rfl named Try.func12 closed inst wrap
    (fun os started H enc _ => lifted os started H enc)

/-- The statement. -/
theorem proved : Rows.OctetPartsSaid := over
#print axioms proved
end Go.Proofs.Ythndlhflkbidiaa.octetParts
