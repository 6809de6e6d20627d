/-
  A chunk that is written is read, whatever stands behind it; any bytes of which a chunk is read are those that are written of it. For every chunk and all bytes. No condition.
-/
import Derived.Test.YthndlhflkbidiaaCkBack
import Derived.Test.YthndlhflkbidiaaOpenC
import Derived.Deep.DeepCutAuto
import Derived.Deep.RegionHeld3
namespace Go.Proofs.Ythndlhflkbidiaa.chunkBack
open Go.Proofs.Ythndlhflkbidiaa
open Go.ChangeShapes Go.WideShapes Go.ChangeAt Go.RowKit

theorem walk_big (k f : Int) (A : Option Addr) (n c : Nat) (B : Option Addr) (m d : Nat) (w : World) (hc : (n : Int) ≤ 9223372036854775807) (hm : (m : Int) ≤ 9223372036854775807) (h : 131072 < n ∨ 4096 < m) :
    Calls Try.prog 15 #[.agg #[.int .u8 k, .int .u8 f, .slice A n c], .slice B m d] w fun e w' => e = .returned (.bool true) ∧ Below w.heap.size w w' := by
  obtain ⟨L, hL⟩ : ∃ L : Bool, L = decide (131072 < n) := ⟨_, rfl⟩
  have HL := Lib.hid hL
  cases L
  all_goals (
  go_enter Try.func15, Try.ntmps15
  go_wp2_with fail
  refine (large_any _ _ _ _ _ _ hc).mono ?_
  rintro e w1 ⟨rfl, hb1⟩
  rw [← HL.out]
  have hm1 : (4096 : Int) < (m : Int) ∨ 131072 < n := by omega
  try (have hm2 : (4096 : Int) < (m : Int) := by simp at hL; omega)
  clear hm1 h hL
  go_wp2_with (go_at_call 48; refine (works08_any _).mono ?_; rintro e w2 ⟨rfl, hb2⟩)
  go_ret
  have t1 : Below w.heap.size w w1 := ((Below.refl _ _).alloc (Nat.le_refl _) _).trans (hb1.mono (by simp))
  exact ⟨rfl, t1.trans (hb2.mono t1.size)⟩)

theorem walk_none (k f : Int) (A : Option Addr) (n c : Nat) (B : Option Addr) (m d : Nat) (w : World) (h1 : n ≤ 131072) (h2 : 65531 < n) (hm : m ≤ 4096) :
    Calls Try.prog 15 #[.agg #[.int .u8 k, .int .u8 f, .slice A n c], .slice B m d] w fun e w' => e = .returned (.bool true) ∧ Below w.heap.size w w' := by
  have hm1 : ¬ ((4096 : Int) < (m : Int)) := by omega
  have hn1 : (65531 : Int) < (n : Int) := by omega
  go_enter Try.func15, Try.ntmps15
  go_wp2_with fail
  refine (large_any _ _ _ _ _ _ (by omega)).mono ?_
  rintro e w1 ⟨rfl, hb1⟩
  rw [decide_eq_false (by omega : ¬ 131072 < n)]
  have old1 := stays (heap_alloc_new w _) hb1
  have t1 : Below w.heap.size w w1 := ((Below.refl _ _).alloc (Nat.le_refl _) _).trans (hb1.mono (by simp))
  have q1 := fun i => cell_of_row w1 w.heap.size i _ 45 (0, 0) old1
  go_wp2_with fail
  refine (ckw_big _ _ _ _ _ _ (by omega)).mono ?_
  rintro e w2 ⟨rfl, hb2⟩
  have old2 := stays old1 hb2
  have t2 := t1.trans (hb2.mono t1.size)
  clear q1
  have q2 := fun i => cell_of_row w2 w.heap.size i _ 45 (0, 0) old2
  go_wp2_with (go_at_call 48; refine (works08_any _).mono ?_; rintro e w3 ⟨rfl, hb3⟩)
  go_ret
  exact ⟨rfl, t2.trans (hb3.mono t2.size)⟩

set_option maxRecDepth 100000 in
set_option maxHeartbeats 1600000 in
theorem walk_go (k f : Nat) (A : Option Addr) (n c : Nat) (xs : List UInt8) (B : Option Addr) (m d : Nat) (ys : List UInt8) (w : World) (hk : k < 256) (hf : f < 256) (hx : Rd w A n xs) (hy : Rd w B m ys) (hmd : m ≤ d) (hd : d ≤ 9223372036854775807) (h1 : n ≤ 65531) (hm : m ≤ 4096) :
    Calls Try.prog 15 #[.agg #[.int .u8 (k : Int), .int .u8 (f : Int), .slice A n c], .slice B m d] w fun e w' => e = .returned (.bool true) ∧ Below w.heap.size w w' := by
  have hln := Lib.hid hx.len
  have hu := up_le (4 + n)
  have hm1 : ¬ ((4096 : Int) < (m : Int)) := by omega
  have hn1 : ¬ ((65531 : Int) < (n : Int)) := by omega
  go_enter Try.func15, Try.ntmps15
  go_wp2_with fail
  refine (large_any _ _ _ _ _ _ (by omega)).mono ?_
  rintro e w1 ⟨rfl, hb1⟩
  rw [decide_eq_false (by omega : ¬ 131072 < n)]
  have old1 := stays (heap_alloc_new w _) hb1
  have t1 : Below w.heap.size w w1 := ((Below.refl _ _).alloc (Nat.le_refl _) _).trans (hb1.mono (by simp))
  have q1 := fun i => cell_of_row w1 w.heap.size i _ 45 (0, 0) old1
  go_wp2_with fail
  refine (ckw_any k f _ n _ xs _ hk hf (hx.below t1) (by omega)).mono ?_
  rintro e w2 ⟨A2, c2, rfl, hB2, hb2⟩
  have old2 := stays old1 hb2
  have t2 := t1.trans (hb2.mono t1.size)
  clear q1
  have q2 := fun i => cell_of_row w2 w.heap.size i _ 45 (0, 0) old2
  have hc2 : c2 ≤ 9223372036854775807 := by have := hB2.2.2.1; unfold maxLen at this; omega
  go_wp2_with fail
  refine (read_back A2 _ c2 k f n xs [] w2 hk hf hln.out h1 (by simpa using hB2.rd) hB2.2.1 hc2 (by omega)).mono ?_
  rintro e w3 ⟨A3, c3, rfl, hB3, hb3⟩
  have old3 := stays old2 hb3
  have t3 := t2.trans (hb3.mono t2.size)
  clear q2
  have t3' := t3.alloc t3.size (.cells #[.int .u8 (k : Int), .int .u8 (f : Int), .slice A3 n c3] 45)
  have hB2' := (hB2.below hb3).alloc (.cells #[.int .u8 (k : Int), .int .u8 (f : Int), .slice A3 n c3] 45)
  have hy3 := hy.below t3'
  go_wp2_with (at_builtin; refine wpList_bytes R22 _ rfl (.tmp 44) (.tmp 45) rfl w1.heap.size rfl rfl hB2' hy3 (by omega) (by have := hb2.size; have := hb3.size; simp; omega) ?_; intro A4 c4 w4 hB4 hg4 hor4)
  have hlt3 : w.heap.size < w3.heap.size := lt_of_block old3
  have old3' := (Below.heap_alloc w3 (.cells #[.int .u8 (k : Int), .int .u8 (f : Int), .slice A3 n c3] 45) _ hlt3).trans old3
  have t4 := t3'.trans ((below_grown hB2' hg4 (by have := hb2.size; have := hb3.size; simp; omega)).mono t1.size)
  have hlt1 := lt_of_block old1
  have ne1 : ∀ g, wrote A2 c2 = some g → w1.heap.size ≤ g ∧ g < w2.heap.size := fun g e => hB2.wrote_place e
  have old4 : w4.heap[w.heap.size]? = some (.cells #[.int .u8 (k : Int), .int .u8 (f : Int), .slice A n c] 45 (0, 0)) := (hg4.block _ (by simp; omega) (fun e => by have := ne1 _ e.symm; omega)).trans old3'
  have hs3 := hb3.size
  have new4 : w4.heap[w3.heap.size]? = some (.cells #[.int .u8 (k : Int), .int .u8 (f : Int), .slice A3 n c3] 45 (0, 0)) := (hg4.block _ (by simp) (fun e => by have := ne1 _ e.symm; omega)).trans (heap_alloc_new w3 _)
  have p3 := hB3.place
  have hB3' : Bo w4 w2.heap.size A3 n c3 xs := (hB3.alloc (.cells #[.int .u8 (k : Int), .int .u8 (f : Int), .slice A3 n c3] 45)).grown hg4 (fun g h0 hA e => by
    have := p3 g h0 hA
    have h2 := ne1 _ e
    omega)
  clear hg4 hor4 ne1 p3
  have hc4 : c4 ≤ 9223372036854775807 := by have := hB4.2.2.1; unfold maxLen at this; omega
  refine (read_back A4 _ c4 k f n xs ys w4 hk hf hln.out h1 hB4.rd hB4.2.1 hc4 (by omega)).mono ?_
  rintro e w5 ⟨A5, c5, rfl, hB5, hb5⟩
  have old5 := stays old4 hb5
  have new5 := stays new4 hb5
  have t5 := t4.trans (hb5.mono t4.size)
  have hB3'' := hB3'.below hb5
  have hl5 := lt_of_block old5
  have hn5 := lt_of_block new5
  have qc := fun o i => cell_of_row (w5.alloc o) w.heap.size i _ 45 (0, 0) ((Below.heap_alloc w5 o _ hl5).trans old5)
  have qd := fun o i => cell_of_row (w5.alloc o) w3.heap.size i _ 45 (0, 0) ((Below.heap_alloc w5 o _ hn5).trans new5)
  have hr4 : ((up (4 + n) : Int) % 4 != 0) = false := by simp; omega
  have hlo : ¬ ((up (4 + n) : Int) < (n : Int) + 4) := by omega
  have hhi : ¬ ((n : Int) + 7 < (up (4 + n) : Int)) := by omega
  go_wp2_with fail
  have t5' := t5.alloc t5.size (.cells #[.int .u8 (k : Int), .int .u8 (f : Int), .slice A5 n c5] 45)
  have hx5 := hx.below t5'
  have eqT : ((k : Int) == (k : Int) && (f : Int) == (f : Int) && eqB xs xs) = true := by simp [eqB]
  have EQ := Lib.hid eqT
  clear eqT
  refine (same_any _ _ _ _ _ _ _ _ _ _ xs xs _ hx5 (hB3''.alloc _).rd (by omega)).mono ?_
  rintro e w6 ⟨rfl, hb6⟩
  rw [EQ.out]
  have old6 := stays ((Below.heap_alloc w5 (.cells #[.int .u8 (k : Int), .int .u8 (f : Int), .slice A5 n c5] 45) _ hl5).trans old5) hb6
  have new6 := stays (heap_alloc_new w5 (.cells #[.int .u8 (k : Int), .int .u8 (f : Int), .slice A5 n c5] 45)) hb6
  have t6 := t5'.trans (hb6.mono t5'.size)
  have hB5' := (hB5.alloc (.cells #[.int .u8 (k : Int), .int .u8 (f : Int), .slice A5 n c5] 45)).below hb6
  clear qc qd
  have qc := fun i => cell_of_row w6 w.heap.size i _ 45 (0, 0) old6
  have qf := fun i => cell_of_row w6 w5.heap.size i _ 45 (0, 0) new6
  go_wp2_with fail
  refine (same_any _ _ _ _ _ _ _ _ _ _ xs xs _ (hx.below t6) hB5'.rd (by omega)).mono ?_
  rintro e w7 ⟨rfl, hb7⟩
  rw [EQ.out]
  have t7 := t6.trans (hb7.mono t6.size)
  clear qc qf hr4 hlo hhi hB5' hB5 hB3'' hB3' hB3 hB4 hB2' hB2 old6 new6 hl5 hn5
  have hy7 := hy.below t7
  go_wp2_with fail
  refine (read_any B m d ys w7 hy7 hmd hd (by omega)).mono ?_
  rintro e w8 h8
  unfold RdOut at h8
  by_cases hok : ckOk ys = true
  · rw [if_pos hok] at h8
    obtain ⟨hwr, h4, hul⟩ := ck_written ys hok
    rw [hy.len] at hul
    unfold RdGood at h8
    obtain ⟨L, hL⟩ : ∃ L, L = ckLen ys := ⟨_, rfl⟩
    obtain ⟨bd, hbd⟩ : ∃ bd, bd = (ys.drop 4).take (ckLen ys - 4) := ⟨_, rfl⟩
    rw [← hbd, ← hL] at hwr
    rw [← hL] at h4 hul
    rw [← hbd, ← hL] at h8
    obtain ⟨A8, c8, rfl, hB8, hb8⟩ := h8
    have g0 := gb_lt ys 0
    have g1 := gb_lt ys 1
    have hlb := hB8.len
    have hlw : wrN (L - 4) = up L := by
      rw [← hlb, ← wrB_length (gb ys 0) (gb ys 1), hwr, List.length_take, hy.len]; omega
    have EW := Lib.hid (show eqB (wrB (gb ys 0) (gb ys 1) bd) (ys.take (up L)) = true by rw [hwr]; simp [eqB])
    have HW := Lib.hid hlw
    clear hwr hL hbd hlb hlw hok
    have t8 := (t7.trans (hb8.mono t7.size))
    have t8' := t8.alloc t8.size (.cells #[.int .u8 (gb ys 0 : Int), .int .u8 (gb ys 1 : Int), .slice A8 (L - 4) c8] 45)
    have hy8 := hy.below t8'
    have hB8' := hB8.alloc (.cells #[.int .u8 (gb ys 0 : Int), .int .u8 (gb ys 1 : Int), .slice A8 (L - 4) c8] 45)
    have n8 := heap_alloc_new w8 (.cells #[.int .u8 (gb ys 0 : Int), .int .u8 (gb ys 1 : Int), .slice A8 (L - 4) c8] 45)
    have hR8 : Rd (w8.alloc (.cells #[.int .u8 (gb ys 0 : Int), .int .u8 (gb ys 1 : Int), .slice A8 (L - 4) c8] 45)).drew A8 (L - 4) bd := hB8'.rd
    have n8d : (w8.alloc (.cells #[.int .u8 (gb ys 0 : Int), .int .u8 (gb ys 1 : Int), .slice A8 (L - 4) c8] 45)).drew.heap[w8.heap.size]? = some (.cells #[.int .u8 (gb ys 0 : Int), .int .u8 (gb ys 1 : Int), .slice A8 (L - 4) c8] 45 (0, 0)) := n8
    have hyd : Rd (w8.alloc (.cells #[.int .u8 (gb ys 0 : Int), .int .u8 (gb ys 1 : Int), .slice A8 (L - 4) c8] 45)).drew B m ys := hy8
    have t8d := t8'.drew
    have hul' : (up L : Int) ≤ (m : Int) := by omega
    have hud' : (up L : Int) ≤ (d : Int) := by omega
    go_wp2_with fail
    go_region_held3 (fun w' => w'.cell? ⟨w8.heap.size, 0, none⟩ = some (.int .u8 (gb ys 0 : Int)) ∧ w'.cell? ⟨w8.heap.size, 1, none⟩ = some (.int .u8 (gb ys 1 : Int)) ∧ w'.cell? ⟨w8.heap.size, 2, none⟩ = some (.slice A8 (L - 4) c8))
      (first | go_keep | (go_show; fail))
      (first
        | (go_at_call 49; refine (ckw_all (gb ys 0) (gb ys 1) A8 (L - 4) c8 bd _ g0 g1 hR8).mono ?_; rintro e w9 ⟨A9, c9, rfl, hB9, hb9⟩; have n9 := stays n8d hb9; have q9 := fun i => cell_of_row w9 w8.heap.size i _ 45 (0, 0) n9)
        | (go_at_call 32; refine (eq_any _ _ _ _ _ _ (wrB (gb ys 0) (gb ys 1) bd) (ys.take (up L)) w9 hB9.rd ((hyd.below hb9).take hul) (by rw [HW.out]; omega)).mono ?_; rintro e w10 ⟨rfl, kq, rfl⟩; rw [EW.out])
        | (go_at_call 48; refine (works08_any _).mono ?_; rintro e w11 ⟨rfl, hb11⟩; have n11 := stays (a := w9.drewN kq) n9 hb11; have q11 := fun i => cell_of_row w11 w8.heap.size i _ 45 (0, 0) n11))
    go_wp2
    go_ret
    have t9 := t8d.trans (hb9.mono t8d.size)
    have t10 := below_drewN t9 kq
    exact ⟨rfl, t10.trans (hb11.mono t10.size)⟩
  · rw [if_neg hok] at h8
    obtain ⟨rfl, hb8⟩ := h8
    have t8 := (t7.trans (hb8.mono t7.size))
    have t8' := t8.alloc t8.size (.cells #[.int .u8 0, .int .u8 0, .slice none 0 0] 45)
    go_wp2_with (go_at_call 48; refine (works08_any _).mono ?_; rintro e w9 ⟨rfl, hb9⟩)
    go_ret
    exact ⟨rfl, t8'.trans (hb9.mono t8'.size)⟩

theorem walk (k f : Nat) (A : Option Addr) (n c : Nat) (xs : List UInt8) (B : Option Addr) (m d : Nat) (ys : List UInt8) (w : World) (hk : k < 256) (hf : f < 256) (hx : Rd w A n xs) (hn : n ≤ c) (hc : c ≤ 9223372036854775807) (hy : Rd w B m ys) (hmd : m ≤ d) (hd : d ≤ 9223372036854775807) :
    Calls Try.prog 15 #[.agg #[.int .u8 (k : Int), .int .u8 (f : Int), .slice A n c], .slice B m d] w fun e w' => e = .returned (.bool true) ∧ Below w.heap.size w w' := by
  by_cases h : 131072 < n ∨ 4096 < m
  · exact walk_big k f A n c B m d w (by omega) (by omega) h
  by_cases h2 : 65531 < n
  · exact walk_none k f A n c B m d w (by omega) h2 (by omega)
  · exact walk_go k f A n c xs B m d ys w hk hf hx hy hmd hd (by omega) (by omega)

set_option maxRecDepth 100000 in
theorem lifted (os : Os) (started : os.Started) (H : Type) (enc : TypeId × Value → H) :
    ReturnsInHanded {} Try.checked os 15 .any (Rows.chunkBackSpec.pre6 enc Try.prog Try.f15 Rows.chunkBackRow.domain false) (Rows.chunkBackSpec.post enc Try.prog Try.f15 false true false false) := by
  refine returnsInHanded_of_change (C := Try.checked) own started (by kernel_rfl) Try.func15
    (ChangeSpec.witness6 (enc := enc) (C := Try.checked) false ⟨#[], #[.agg #[.int .u8 0, .int .u8 0, .slice none 0 0], .slice none 0 0], []⟩ 8 (by kernel_rfl) (by kernel_rfl) (by kernel_rfl) (by kernel_rfl)) ?_
  intro W base args ds gs before hval0 hW _ _
  have hval : ∀ (j : Nat) t v, Try.f15.params[j]? = some t → args[j]? = some v → Value.okWide Try.prog W .any base t v := hval0
  have hW' := hW
  obtain ⟨p, q, hA0, hV, rfl, _, _⟩ := hW
  have hA : DataW.TrodAll enc Try.prog W 0 (fun _ => true) true Try.f15.params.toList args.toList ds p := hA0
  have hA1 := hA
  rw [Try.params15] at hA hval
  obtain ⟨v0, vs0, d0, ds0, p0, q0, hargs, rfl, rfl, h0, r0⟩ := trodAll_cons hA
  obtain ⟨v1, vs1, d1, ds1, p1, q1, rfl, rfl, rfl, h1, r1⟩ := trodAll_cons r0
  obtain ⟨rfl, rfl, rfl⟩ := trodAll_nil r1
  obtain rfl : args = #[v0, v1] := by cases args; simp_all
  obtain ⟨rfl, rfl⟩ := trodVars_none hV
  obtain ⟨k0, f0, A0, n0, c0, xs0, rfl, hk0, hf0, hx0, hn0, hc0⟩ := chunk_of (hval 0 45 v0 rfl rfl) h0
  obtain ⟨A1, n1, c1, xs1, rfl, hx1, hn1, hc1⟩ := bytes_of (hval 1 22 v1 rfl rfl) h1
  clear hA0 hval0
  simp only [List.append_nil] at hW' hA1
  refine (walk k0 f0 A0 n0 c0 xs0 A1 n1 c1 xs1 W hk0 hf0 hx0 hn0 hc0 hx1 hn1 hc1).mono fun e W' ⟨he, bel⟩ => ?_
  subst he
  exact ⟨_, rfl, post_law (by kernel_rfl) rfl rfl (by rw [Try.params15]; intro t ht; simp at ht; rcases ht with rfl | rfl <;> exact ⟨by kernel_rfl, of_decide_eq_true (by kernel_rfl)⟩) hW' hA1 bel⟩

theorem closed : joinedFacts Try.prog 15 Try.f15 Rows.chunkBackSpec Rows.chunkBackRow = true :=
  closed_of (by kernel_rfl) laidOut mapsRowed0 (by kernel_rfl) (by kernel_rfl) (by kernel_rfl) stops0 (by kernel_rfl) knobs0 (by kernel_rfl) (by kernel_rfl) (by kernel_rfl) (by kernel_rfl) (by kernel_rfl) (by kernel_rfl) (by kernel_rfl)
    (by kernel_rfl) (by kernel_rfl) (by kernel_rfl) (by kernel_rfl) (by kernel_rfl) (by kernel_rfl) (by kernel_rfl) (by kernel_rfl) heard0 enter0 final0 rfl make0 rfl rfl rfl (by kernel_rfl) (by kernel_rfl) (by kernel_rfl)
theorem named : Try.prog.funcNamed Rows.chunkBackRow.func = some 15 := by kernel_rfl
theorem inst : Try.f15.isInstance Try.prog Rows.chunkBackRow.origin Rows.chunkBackRow.targs := of_decide_eq_true (by kernel_rfl)
theorem wrap : Try.f15.isWrapper Try.prog Rows.chunkBackRow.wrapper Rows.chunkBackRow.mainSum := by
  unfold Func.isWrapper
  rw [if_neg (by decide +kernel)]
  exact ⟨rfl, rfl⟩
theorem over : Rows.chunkBackRow.holds Try.pinned (OpenSpec.ofChange Rows.chunkBackSpec) :=
  OpenClaim.holds_of_wide 15 Try.f15 rfl rfl rfl rfl rfl rfl rfl ⟨rfl, rfl, rfl, rfl, rfl⟩ rfl rfl rfl rfl rfl named Try.func15 closed inst wrap
    (fun os started H enc _ => lifted os started H enc)

/-- The statement. -/
theorem proved : Rows.ChunkBackSaid := over
#print axioms proved
end Go.Proofs.Ythndlhflkbidiaa.chunkBack
