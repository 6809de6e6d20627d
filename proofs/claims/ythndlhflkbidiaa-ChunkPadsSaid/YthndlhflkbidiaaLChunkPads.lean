/-
  Of a chunk's padding no byte may be another one than 0; each of its other bytes but the length's may be any, and is read as it stands. For every chunk, place and byte. No condition.
-/
import Derived.Test.YthndlhflkbidiaaCkSet
import Derived.Test.YthndlhflkbidiaaOpenC
namespace Go.Proofs.Ythndlhflkbidiaa.chunkPads
open Go.Proofs.Ythndlhflkbidiaa
open Go.ChangeShapes Go.WideShapes Go.ChangeAt Go.RowKit

theorem walk_none (k f : Nat) (A : Option Addr) (n c : Nat) (at_ v : Int) (w : World) (hc : (n : Int) ≤ 9223372036854775807) (h : 65531 < n) :
    Calls Try.prog 18 #[.agg #[.int .u8 (k : Int), .int .u8 (f : Int), .slice A n c], .int .u16 at_, .int .u8 v] w fun e w' => e = .returned (.bool true) ∧ Below w.heap.size w w' := by
  obtain ⟨L, hL⟩ : ∃ L : Bool, L = decide (131072 < n) := ⟨_, rfl⟩
  have HL := Lib.hid hL
  clear hL
  cases L
  all_goals (
  go_enter Try.func18, Try.ntmps18
  go_wp2_with fail
  refine (ckw_big _ _ _ _ _ _ (by omega)).mono ?_
  rintro e w1 ⟨rfl, hb1⟩
  have old1 := stays (heap_alloc_new w _) hb1
  have t1 : Below w.heap.size w w1 := ((Below.refl _ _).alloc (Nat.le_refl _) _).trans (hb1.mono (by simp))
  have q1 := fun i => cell_of_row w1 w.heap.size i _ 45 (0, 0) old1
  go_wp2_with fail
  refine (large_any _ _ _ _ _ _ hc).mono ?_
  rintro e w2 ⟨rfl, hb2⟩
  rw [← HL.out]
  clear q1
  go_wp2_with (go_at_call 48; refine (works08_any _).mono ?_; rintro e w3 ⟨rfl, hb3⟩)
  go_ret
  have t2 := t1.trans (hb2.mono t1.size)
  exact ⟨rfl, t2.trans (hb3.mono t2.size)⟩)

set_option maxRecDepth 100000 in
set_option maxHeartbeats 1600000 in
theorem walk_go (k f : Nat) (A : Option Addr) (n c : Nat) (xs : List UInt8) (at_ : Nat) (v : Nat) (w : World) (hk : k < 256) (hf : f < 256) (hx : Rd w A n xs) (ha : at_ < 65536) (hv : v < 256) (h : n ≤ 65531) :
    Calls Try.prog 18 #[.agg #[.int .u8 (k : Int), .int .u8 (f : Int), .slice A n c], .int .u16 (at_ : Int), .int .u8 (v : Int)] w fun e w' => e = .returned (.bool true) ∧ Below w.heap.size w w' := by
  have hln := Lib.hid hx.len
  have hu := up_le (4 + n)
  go_enter Try.func18, Try.ntmps18
  go_wp2_with fail
  refine (ckw_any k f _ n _ xs _ hk hf (hx.alloc _) (by omega)).mono ?_
  rintro e w1 ⟨A1, c1, rfl, hB1, hb1⟩
  have old1 := stays (heap_alloc_new w _) hb1
  have t1 : Below w.heap.size w w1 := ((Below.refl _ _).alloc (Nat.le_refl _) _).trans (hb1.mono (by simp))
  have q1 := fun i => cell_of_row w1 w.heap.size i _ 45 (0, 0) old1
  go_wp2_with fail
  refine (large_any _ _ _ _ _ _ (by omega)).mono ?_
  rintro e w2 ⟨rfl, hb2⟩
  rw [decide_eq_false (by omega : ¬ 131072 < n)]
  have old2 := stays old1 hb2
  have t2 := t1.trans (hb2.mono t1.size)
  clear q1
  have hne : ((up (4 + n) : Int) == 0) = false := by simp; omega
  obtain ⟨j, hj⟩ : ∃ j : Nat, (at_ : Int).tmod (up (4 + n) : Int) = (j : Int) := ⟨at_ % up (4 + n), by rw [Int.tmod_eq_emod_of_nonneg (by omega)]; omega⟩
  have hjl : j < up (4 + n) := by
    rw [Int.tmod_eq_emod_of_nonneg (by omega)] at hj
    have := Int.emod_lt_of_pos (at_ : Int) (show (0 : Int) < (up (4 + n) : Int) by omega)
    omega
  by_cases h23 : j = 2 ∨ j = 3
  · rcases h23 with rfl | rfl
    all_goals (
    go_wp2_with (go_at_call 48; refine (works08_any _).mono ?_; rintro e w3 ⟨rfl, hb3⟩)
    go_ret
    exact ⟨rfl, t2.trans (hb3.mono t2.size)⟩)
  have hj2 : ((j : Int) == 2) = false := by simp; omega
  have hj3 : ((j : Int) == 3) = false := by simp; omega
  obtain ⟨g, rfl, hg, hcell, hfr, hB3⟩ := (hB1.below hb2).set_ j (UInt8.ofNat v) hjl
  rw [show (UInt8.ofNat v).toNat = v by simp [Nat.mod_eq_of_lt hv]] at hB3
  simp only [World.size_alloc] at hg
  have old3 : (w2.setCell ⟨g, j, none⟩ (.int .u8 (v : Int))).heap[w.heap.size]? = some (.cells #[.int .u8 (k : Int), .int .u8 (f : Int), .slice A n c] 45 (0, 0)) := (Below.heap_setCell _ _ _ _ (by simp; omega)).trans old2
  have t3 : Below w.heap.size w (w2.setCell ⟨g, j, none⟩ (.int .u8 (v : Int))) := t2.setCell (p := ⟨g, j, none⟩) (by simp; omega) _
  have hc1 := hB3.2.1
  have hc2 : c1 ≤ 9223372036854775807 := by have := hB3.2.2.1; unfold maxLen at this; omega
  go_wp2_with fail
  refine (read_any _ _ _ _ _ hB3.rd hc1 hc2 (by omega)).mono ?_
  generalize w2.setCell ⟨g, j, none⟩ (.int .u8 (v : Int)) = w3 at *
  rintro e w4 h4
  unfold RdOut at h4
  by_cases hp : 4 + n ≤ j
  · rw [ck_set_pad k f xs j _ (by rw [hln.out]; omega) (by rw [hln.out]; omega) (by rw [hln.out]; omega)] at h4
    have hp' : ((n : Int) + 4 ≤ (j : Int)) := by omega
    by_cases hv0 : v = 0
    · subst hv0
      rw [if_pos (by decide)] at h4
      unfold RdGood at h4
      obtain ⟨A4, c4, rfl, hB4, hb4⟩ := h4
      have old4 := stays old3 hb4
      have t4 := t3.trans (hb4.mono t3.size)
      have r4 := fun o i => cell_of_row (w4.alloc o) w.heap.size i _ 45 (0, 0) ((Below.heap_alloc w4 o _ (lt_of_block old4)).trans old4)
      go_wp2_with (go_at_call 48; refine (works08_any _).mono ?_; rintro e w5 ⟨rfl, hb5⟩)
      go_ret
      have t5 := t4.alloc t4.size (.cells #[.int .u8 (gb ((ckB k f xs).set j (UInt8.ofNat 0)) 0 : Int), .int .u8 (gb ((ckB k f xs).set j (UInt8.ofNat 0)) 1 : Int), .slice A4 (ckLen ((ckB k f xs).set j (UInt8.ofNat 0)) - 4) c4] 45)
      exact ⟨rfl, t5.trans (hb5.mono t5.size)⟩
    · have hv1 : (UInt8.ofNat v == 0) = false := by
        rw [beq_eq_false_iff_ne]
        intro e
        have := congrArg UInt8.toNat e
        simp [Nat.mod_eq_of_lt hv] at this
        exact hv0 this
      rw [hv1] at h4
      obtain ⟨rfl, hb4⟩ := h4
      have hv2 : ((v : Int) == 0) = false := by simp; omega
      have old4 := stays old3 hb4
      have t4 := t3.trans (hb4.mono t3.size)
      have r4 := fun o i => cell_of_row (w4.alloc o) w.heap.size i _ 45 (0, 0) ((Below.heap_alloc w4 o _ (lt_of_block old4)).trans old4)
      go_wp2_with (go_at_call 48; refine (works08_any _).mono ?_; rintro e w5 ⟨rfl, hb5⟩)
      go_ret
      have t5 := t4.alloc t4.size (.cells #[.int .u8 0, .int .u8 0, .slice none 0 0] 45)
      exact ⟨rfl, t5.trans (hb5.mono t5.size)⟩
  · rw [ck_set_ok k f xs j _ (by rw [hln.out]; omega) (by rw [hln.out]; omega) (by omega) (by omega), if_pos rfl] at h4
    unfold RdGood at h4
    have hyl : j < (ckB k f xs).length := by rw [ckB_length, hln.out]; exact hjl
    have e4 : ckLen ((ckB k f xs).set j (UInt8.ofNat v)) = 4 + n := by rw [ckLen_set _ _ _ (by omega) (by omega), ckLen_ckB _ _ _ (by rw [hln.out]; omega), hln.out]
    have ev := gb_set (ckB k f xs) j (UInt8.ofNat v) hyl
    rw [show (UInt8.ofNat v).toNat = v by simp [Nat.mod_eq_of_lt hv]] at ev
    rw [e4, show 4 + n - 4 = n by omega] at h4
    obtain ⟨A4, c4, rfl, hB4, hb4⟩ := h4
    have old4 := stays old3 hb4
    have t4 := t3.trans (hb4.mono t3.size)
    have r4 := fun o i => cell_of_row (w4.alloc o) w.heap.size i _ 45 (0, 0) ((Below.heap_alloc w4 o _ (lt_of_block old4)).trans old4)
    have hp' : ¬ ((n : Int) + 4 ≤ (j : Int)) := by omega
    obtain rfl | rfl | ⟨i, rfl⟩ : j = 0 ∨ j = 1 ∨ ∃ i, j = i + 4 := by
      rcases Nat.lt_or_ge j 4 with h | h
      · omega
      · exact .inr (.inr ⟨j - 4, by omega⟩)
    · rw [ev]
      go_wp2_with (go_at_call 48; refine (works08_any _).mono ?_; rintro e w5 ⟨rfl, hb5⟩)
      go_ret
      have t5 := t4.alloc t4.size (.cells #[.int .u8 (v : Int), .int .u8 (gb ((ckB k f xs).set 0 (UInt8.ofNat v)) 1 : Int), .slice A4 n c4] 45)
      exact ⟨rfl, t5.trans (hb5.mono t5.size)⟩
    · rw [ev]
      go_wp2_with (go_at_call 48; refine (works08_any _).mono ?_; rintro e w5 ⟨rfl, hb5⟩)
      go_ret
      have t5 := t4.alloc t4.size (.cells #[.int .u8 (gb ((ckB k f xs).set 1 (UInt8.ofNat v)) 0 : Int), .int .u8 (v : Int), .slice A4 n c4] 45)
      exact ⟨rfl, t5.trans (hb5.mono t5.size)⟩
    · have eb := gb_mid ((ckB k f xs).set (i + 4) (UInt8.ofNat v)) i 4 n (by omega)
      rw [Nat.add_comm 4 i, ev] at eb
      obtain ⟨g4, o4, rfl, hc4⟩ := hB4.rd.at_ (k := i) (by omega)
      rw [eb] at hc4
      have k4 := fun o => (World.cell?_alloc_lt w4 o ⟨g4, o4 + i, none⟩ (World.block_lt_of_cell? w4 _ hc4)).trans hc4
      have hi : (i : Int) < (n : Int) := by omega
      clear eb ev
      go_wp2_with (go_at_call 48; refine (works08_any _).mono ?_; rintro e w5 ⟨rfl, hb5⟩)
      go_ret
      have t5 := t4.alloc t4.size (.cells #[.int .u8 (gb ((ckB k f xs).set (i + 4) (UInt8.ofNat v)) 0 : Int), .int .u8 (gb ((ckB k f xs).set (i + 4) (UInt8.ofNat v)) 1 : Int), .slice (some ⟨g4, o4, none⟩) n c4] 45)
      exact ⟨rfl, t5.trans (hb5.mono t5.size)⟩

theorem walk (k f : Nat) (A : Option Addr) (n c : Nat) (xs : List UInt8) (at_ v : Nat) (w : World) (hk : k < 256) (hf : f < 256) (hx : Rd w A n xs) (hn : n ≤ c) (hc : c ≤ 9223372036854775807) (ha : at_ < 65536) (hv : v < 256) :
    Calls Try.prog 18 #[.agg #[.int .u8 (k : Int), .int .u8 (f : Int), .slice A n c], .int .u16 (at_ : Int), .int .u8 (v : Int)] w fun e w' => e = .returned (.bool true) ∧ Below w.heap.size w w' := by
  by_cases h : 65531 < n
  · exact walk_none k f A n c at_ v w (by omega) h
  · exact walk_go k f A n c xs at_ v w hk hf hx ha hv (by omega)

set_option maxRecDepth 100000 in
theorem lifted (os : Os) (started : os.Started) (H : Type) (enc : TypeId × Value → H) :
    ReturnsInHanded {} Try.checked os 18 .any (Rows.chunkPadsSpec.pre6 enc Try.prog Try.f18 Rows.chunkPadsRow.domain false) (Rows.chunkPadsSpec.post enc Try.prog Try.f18 false true false false) := by
  refine returnsInHanded_of_change (C := Try.checked) own started (by kernel_rfl) Try.func18
    (ChangeSpec.witness6 (enc := enc) (C := Try.checked) false ⟨#[], #[.agg #[.int .u8 0, .int .u8 0, .slice none 0 0], .int .u16 0, .int .u8 0], []⟩ 8 (by kernel_rfl) (by kernel_rfl) (by kernel_rfl) (by kernel_rfl)) ?_
  intro W base args ds gs before hval0 hW _ _
  have hval : ∀ (j : Nat) t v, Try.f18.params[j]? = some t → args[j]? = some v → Value.okWide Try.prog W .any base t v := hval0
  have hW' := hW
  obtain ⟨p, q, hA0, hV, rfl, _, _⟩ := hW
  have hA : DataW.TrodAll enc Try.prog W 0 (fun _ => true) true Try.f18.params.toList args.toList ds p := hA0
  have hA1 := hA
  rw [Try.params18] at hA hval
  obtain ⟨v0, vs0, d0, ds0, p0, q0, hargs, rfl, rfl, h0, r0⟩ := trodAll_cons hA
  obtain ⟨v1, vs1, d1, ds1, p1, q1, rfl, rfl, rfl, h1, r1⟩ := trodAll_cons r0
  obtain ⟨v2, vs2, d2, ds2, p2, q2, rfl, rfl, rfl, h2, r2⟩ := trodAll_cons r1
  obtain ⟨rfl, rfl, rfl⟩ := trodAll_nil r2
  obtain rfl : args = #[v0, v1, v2] := by cases args; simp_all
  obtain ⟨rfl, rfl⟩ := trodVars_none hV
  obtain ⟨k0, f0, A0, n0, c0, xs0, rfl, hk0, hf0, hx0, hn0, hc0⟩ := chunk_of (hval 0 45 v0 rfl rfl) h0
  obtain ⟨a1, rfl, hi1⟩ := u16_of (hval 1 66 v1 rfl rfl) h1
  obtain ⟨a2, rfl, hi2⟩ := u8_of (hval 2 5 v2 rfl rfl) h2
  clear hA0 hval0
  simp only [List.append_nil] at hW' hA1
  refine (walk k0 f0 A0 n0 c0 xs0 a1 a2 W hk0 hf0 hx0 hn0 hc0 hi1 hi2).mono fun e W' ⟨he, bel⟩ => ?_
  subst he
  exact ⟨_, rfl, post_law (by kernel_rfl) rfl rfl (by rw [Try.params18]; intro t ht; simp at ht; rcases ht with rfl | rfl | rfl <;> exact ⟨by kernel_rfl, of_decide_eq_true (by kernel_rfl)⟩) hW' hA1 bel⟩

theorem closed : joinedFacts Try.prog 18 Try.f18 Rows.chunkPadsSpec Rows.chunkPadsRow = true :=
  closed_of (by kernel_rfl) laidOut mapsRowed0 (by kernel_rfl) (by kernel_rfl) (by kernel_rfl) stops0 (by kernel_rfl) knobs0 (by kernel_rfl) (by kernel_rfl) (by kernel_rfl) (by kernel_rfl) (by kernel_rfl) (by kernel_rfl) (by kernel_rfl)
    (by kernel_rfl) (by kernel_rfl) (by kernel_rfl) (by kernel_rfl) (by kernel_rfl) (by kernel_rfl) (by kernel_rfl) (by kernel_rfl) heard0 enter0 final0 rfl make0 rfl rfl rfl (by kernel_rfl) (by kernel_rfl) (by kernel_rfl)
theorem named : Try.prog.funcNamed Rows.chunkPadsRow.func = some 18 := by kernel_rfl
theorem inst : Try.f18.isInstance Try.prog Rows.chunkPadsRow.origin Rows.chunkPadsRow.targs := of_decide_eq_true (by kernel_rfl)
theorem wrap : Try.f18.isWrapper Try.prog Rows.chunkPadsRow.wrapper Rows.chunkPadsRow.mainSum := by
  unfold Func.isWrapper
  rw [if_neg (by decide +kernel)]
  exact ⟨rfl, rfl⟩
theorem over : Rows.chunkPadsRow.holds Try.pinned (OpenSpec.ofChange Rows.chunkPadsSpec) :=
  OpenClaim.holds_of_wide 18 Try.f18 rfl rfl rfl rfl rfl rfl rfl ⟨rfl, rfl, rfl, rfl, rfl⟩ rfl rfl rfl rfl rfl named Try.func18 closed inst wrap
    (fun os started H enc _ => lifted os started H enc)

/-- The statement. -/
theorem proved : Rows.ChunkPadsSaid := over
#print axioms proved
end Go.Proofs.Ythndlhflkbidiaa.chunkPads
