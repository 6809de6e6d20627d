/-
  Write and Size answer the bytes of any packet, in new memory, and how many they are, or that its chunks may not stand in one; the packet stays. For every packet. No condition.
-/
import Derived.Test.YthndlhflkbidiaaPkMore
import Derived.Test.YthndlhflkbidiaaWk10
import Derived.Test.YthndlhflkbidiaaCpW
import Derived.Test.YthndlhflkbidiaaPkWrR
import Derived.Test.YthndlhflkbidiaaOpenK
namespace Go.Proofs.Ythndlhflkbidiaa.packetWrites
open Go.Proofs.Ythndlhflkbidiaa
open Go.ChangeShapes Go.WideShapes Go.ChangeAt Go.RowKit

set_option maxHeartbeats 1600000 in
theorem walk (t : Nat) (A : Option Addr) (n c : Nat) (cs : List Ck) (w : World) (ht : t < 4294967296) (hx : Cks w A n cs) (hn : n ≤ c) (hc : c ≤ 9223372036854775807) :
    Calls Try.prog 20 #[.agg #[.int .u32 (t : Int), .slice A n c]] w fun e w' => e = .returned (.bool true) ∧ Below w.heap.size w w' := by
  have HL := Lib.hid hx.len
  have t0 : Below w.heap.size w (w.alloc (.cells #[.int .u32 (t : Int), .slice A n c] 43)) := (Below.refl _ _).alloc (Nat.le_refl _) _
  go_enter Try.func20, Try.ntmps20
  go_wp2_with fail
  refine (large10_any t A n c cs _ (hx.alloc _) (by omega)).mono ?_
  rintro e w1 ⟨L, rfl, hL, hb1⟩
  have t1 := t0.trans (hb1.mono t0.size)
  cases L with
  | true =>
    clear hL
    go_wp2_with (go_at_call 41; refine (works10_any _).mono ?_; rintro e w2 ⟨rfl, hb2⟩)
    go_ret
    exact ⟨rfl, t1.trans (hb2.mono t1.size)⟩
  | false =>
    obtain ⟨hn5, htot⟩ := hL rfl
    have hmem := total_mem htot
    have hsz := sizeB_le cs
    rw [hx.len] at hsz
    have HM := Lib.hid (show ∀ c ∈ cs, c.xs.length ≤ 1000000 from fun c hc => by have := hmem c hc; omega)
    have HM2 := Lib.hid (show ∀ c ∈ cs, c.xs.length ≤ 9223372036854775807 from fun c hc => by have := hmem c hc; omega)
    clear hL hmem
    have old1 := stays (heap_alloc_new w _) hb1
    have q1 := fun i => cell_of_row w1 w.heap.size i _ 43 (0, 0) old1
    go_wp2_with fail
    refine (copy10_any t A n c cs _ (hx.below t1) (by omega) HM.out).mono ?_
    rintro e w2 ⟨A2, c2, rfl, hk2, hnc2, hc2m, hb2⟩
    have old2 := stays old1 hb2
    have t2 := t1.trans (hb2.mono t1.size)
    have t2' := t2.alloc t2.size (.cells #[.int .u32 (t : Int), .slice A2 n c2] 43)
    have in2 := heap_alloc_new w2 (.cells #[.int .u32 (t : Int), .slice A2 n c2] 43)
    have old2' := (Below.heap_alloc w2 (.cells #[.int .u32 (t : Int), .slice A2 n c2] 43) _ (lt_of_heap old2)).trans old2
    have hk2' := hk2.alloc (.cells #[.int .u32 (t : Int), .slice A2 n c2] 43)
    clear q1
    go_wp2_with fail
    refine (write10_any t A2 n c2 cs _ ht hk2' (by omega)).mono ?_
    obtain ⟨Z, hZ⟩ : ∃ Z, Z = pkB t cs := ⟨_, rfl⟩
    obtain ⟨m, hm⟩ : ∃ m, m = Z.length := ⟨_, rfl⟩
    have hmay : (m = 0 ∨ m = sizeB cs) ∧ m ≤ sizeB cs := by
      have h1 := pkB_le t cs
      rw [← hZ, ← hm] at h1
      refine ⟨?_, h1⟩
      by_cases h : mayB cs = true
      · have h2 := pkB_length (t := t) h
        rw [← hZ, ← hm] at h2
        exact .inr h2
      · have h2 := pkB_nil (t := t) (cs := cs) (by simpa using h)
        rw [← hZ] at h2
        rw [h2] at hm
        exact .inl hm
    rw [← hZ, ← hm]
    have HZ := Lib.hid hZ
    have HMM := Lib.hid hm
    have HMAY := Lib.hid hmay.1
    have hmle := hmay.2
    clear hZ hm hmay
    rintro e w3 ⟨A3, c3, rfl, hB3, hb3⟩
    have old3 := stays old2' hb3
    have in3 := stays in2 hb3
    have t3 := t2'.trans (hb3.mono t2'.size)
    have hk3 := hk2'.below hb3
    have q3 := fun i => cell_of_row w3 w.heap.size i _ 43 (0, 0) old3
    have r3 := fun i => cell_of_row w3 w2.heap.size i _ 43 (0, 0) in3
    go_wp2_with fail
    refine (size10_any t A2 n c2 cs _ hk3 (by omega) HM.out).mono ?_
    rintro e w4 ⟨rfl, hb4⟩
    have old4 := stays old3 hb4
    have in4 := stays in3 hb4
    have t4 := t3.trans (hb4.mono t3.size)
    have hk4 := hk3.below hb4
    have hx4 := hx.below t4
    have q4 := fun i => cell_of_row w4 w.heap.size i _ 43 (0, 0) old4
    clear q3 r3
    go_wp2_with fail
    refine (write10R_any t A n c cs _ ht hx4 (by omega)).mono ?_
    rw [← HZ.out, ← HMM.out]
    rintro e w5 ⟨A5, c5, rfl, hB5, hb5⟩
    have old5 := stays old4 hb5
    have in5 := stays in4 hb5
    have t5 := t4.trans (hb5.mono t4.size)
    have hB3' := (hB3.below hb4).below hb5
    have eqZ : eqB Z Z = true := by simp [eqB]
    have EZ := Lib.hid eqZ
    clear eqZ q4
    go_wp2_with fail
    refine (eq_any _ _ _ _ _ _ Z Z _ hB3'.rd hB5.rd (by omega)).mono ?_
    rintro e w6 ⟨rfl, kq, rfl⟩
    rw [EZ.out]
    have q5 := fun i => cell_of_row (w5.drewN kq) w.heap.size i _ 43 (0, 0) old5
    have r5 := fun i => cell_of_row (w5.drewN kq) w2.heap.size i _ 43 (0, 0) in5
    have t6 := below_drewN t5 kq
    go_wp2_with fail
    refine (size10R_any t A n c cs _ (hx.below t6) (by omega) HM.out).mono ?_
    rintro e w7 ⟨rfl, hb7⟩
    have old7 := stays (a := w5.drewN kq) old5 hb7
    have in7 := stays (a := w5.drewN kq) in5 hb7
    have t7 := t6.trans (hb7.mono t6.size)
    clear q5 r5
    have q7 := fun i => cell_of_row w7 w.heap.size i _ 43 (0, 0) old7
    have r7 := fun i => cell_of_row w7 w2.heap.size i _ 43 (0, 0) in7
    have hk7 : Cks w7 A2 n cs := ((hk4.below hb5).drewN kq).below hb7
    go_wp2_with fail
    refine (same10_any t A2 A n c2 c cs _ hk7 (hx.below t7) (by omega) HM2.out).mono ?_
    rintro e w8 ⟨rfl, hb8⟩
    have in8 := stays in7 hb8
    have t8 := t7.trans (hb8.mono t7.size)
    have r8 := fun i => cell_of_row w8 w2.heap.size i _ 43 (0, 0) in8
    have hk8 := hk7.below hb8
    clear q7 r7
    have hB8 : Bo w8 _ A3 m c3 Z := ((hB3'.drewN kq).below hb7).below hb8
    have hcase : (m = 0 ∨ (0 < m ∧ m = sizeB cs)) := by
      have := HMAY.out
      unfold sizeB at *
      omega
    have fin : ∀ w9 A9 c9, Bo w9 w8.heap.size A9 m c9 Z → Below w8.heap.size w8 w9 → Calls Try.prog 34 #[.slice (some ⟨w9.heap.size, 0, none⟩) 2 2] (w9.alloc (.cells #[.slice A3 m c3, .slice A9 m c9] 22)) fun e w' => e = .returned (.bool true) ∧ Below w9.heap.size w9 w' := fun w9 A9 c9 hB9 hb9 =>
      apartB (hB8.below hb9) hB9 (fun g h0 hA => (hB8.place g h0 hA).2)
    have FIN := Lib.hid fin
    clear fin
    rcases hcase with h0 | ⟨h0, hms⟩
    · have h0' : decide (0 < m) = false := by simp; omega
      clear h0
      go_wp2_with fail
      refine (write10_any t A2 n c2 cs w8 ht hk8 (by omega)).mono ?_
      rw [← HZ.out, ← HMM.out]
      rintro e w9 ⟨A9, c9, rfl, hB9, hb9⟩
      have t9 := t8.trans (hb9.mono t8.size)
      have hf := FIN.out w9 A9 c9 hB9 hb9
      go_wp2_with fail
      refine hf.mono ?_
      rintro e w10 ⟨rfl, hb10⟩
      clear hf
      have t10 := t9.trans (hb10.mono t9.size)
      go_wp2_with (go_at_call 41; refine (works10_any _).mono ?_; rintro e w11 ⟨rfl, hb11⟩)
      go_ret
      exact ⟨rfl, t10.trans (hb11.mono t10.size)⟩
    · have h0' : decide (0 < m) = true := by simp; omega
      subst hms
      go_wp2_with fail
      refine (write10_any t A2 n c2 cs w8 ht hk8 (by omega)).mono ?_
      rw [← HZ.out, ← HMM.out]
      rintro e w9 ⟨A9, c9, rfl, hB9, hb9⟩
      have t9 := t8.trans (hb9.mono t8.size)
      have hf := FIN.out w9 A9 c9 hB9 hb9
      go_wp2_with fail
      refine hf.mono ?_
      rintro e w10 ⟨rfl, hb10⟩
      clear hf
      have t10 := t9.trans (hb10.mono t9.size)
      go_wp2_with (go_at_call 41; refine (works10_any _).mono ?_; rintro e w11 ⟨rfl, hb11⟩)
      go_ret
      exact ⟨rfl, t10.trans (hb11.mono t10.size)⟩

set_option maxRecDepth 100000 in
theorem lifted (os : Os) (started : os.Started) (H : Type) (enc : TypeId × Value → H) :
    ReturnsInHanded {} Try.checked os 20 .any (Rows.packetWritesSpec.pre6 enc Try.prog Try.f20 Rows.packetWritesRow.domain false) (Rows.packetWritesSpec.post enc Try.prog Try.f20 false true false false) := by
  refine returnsInHanded_of_change (C := Try.checked) own started (by kernel_rfl) Try.func20
    (ChangeSpec.witness6 (enc := enc) (C := Try.checked) false ⟨#[], #[.agg #[.int .u32 0, .slice none 0 0]], []⟩ 8 (by kernel_rfl) (by kernel_rfl) (by kernel_rfl) (by kernel_rfl)) ?_
  intro W base args ds gs before hval0 hW _ _
  have hval : ∀ (j : Nat) t v, Try.f20.params[j]? = some t → args[j]? = some v → Value.okWide Try.prog W .any base t v := hval0
  have hW' := hW
  obtain ⟨p, q, hA0, hV, rfl, _, _⟩ := hW
  have hA : DataW.TrodAll enc Try.prog W 0 (fun _ => true) true Try.f20.params.toList args.toList ds p := hA0
  have hA1 := hA
  rw [Try.params20] at hA hval
  obtain ⟨v0, vs0, d0, ds0, p0, q0, hargs, rfl, rfl, h0, r0⟩ := trodAll_cons hA
  obtain ⟨rfl, rfl, rfl⟩ := trodAll_nil r0
  obtain rfl : args = #[v0] := by cases args; simp_all
  obtain ⟨rfl, rfl⟩ := trodVars_none hV
  obtain ⟨g0, A0, n0, c0, cs0, rfl, hg0, hx0, hn0, hc0⟩ := packet_of (hval 0 43 v0 rfl rfl) h0
  clear hA0 hval0
  simp only [List.append_nil] at hW' hA1
  refine (walk g0 A0 n0 c0 cs0 W hg0 hx0 hn0 hc0).mono fun e W' ⟨he, bel⟩ => ?_
  subst he
  exact ⟨_, rfl, post_law (by kernel_rfl) rfl rfl (by rw [Try.params20]; intro t ht; simp at ht; subst ht; exact ⟨by kernel_rfl, of_decide_eq_true (by kernel_rfl)⟩) hW' hA1 bel⟩

theorem closed : joinedFacts Try.prog 20 Try.f20 Rows.packetWritesSpec Rows.packetWritesRow = true :=
  closed_of (by kernel_rfl) laidOut mapsRowed0 (by kernel_rfl) (by kernel_rfl) (by kernel_rfl) stops0 (by kernel_rfl) knobs0 (by kernel_rfl) (by kernel_rfl) (by kernel_rfl) (by kernel_rfl) (by kernel_rfl) (by kernel_rfl) (by kernel_rfl)
    (by kernel_rfl) (by kernel_rfl) (by kernel_rfl) (by kernel_rfl) (by kernel_rfl) (by kernel_rfl) (by kernel_rfl) (by kernel_rfl) heard0 enter0 final0 rfl make0 rfl rfl rfl (by kernel_rfl) (by kernel_rfl) (by kernel_rfl)
theorem named : Try.prog.funcNamed Rows.packetWritesRow.func = some 20 := by kernel_rfl
theorem inst : Try.f20.isInstance Try.prog Rows.packetWritesRow.origin Rows.packetWritesRow.targs := of_decide_eq_true (by kernel_rfl)
theorem wrap : Try.f20.isWrapper Try.prog Rows.packetWritesRow.wrapper Rows.packetWritesRow.mainSum := by
  unfold Func.isWrapper
  rw [if_neg (by decide +kernel)]
  exact ⟨rfl, rfl⟩
theorem over : Rows.packetWritesRow.holds Try.pinned (OpenSpec.ofChange Rows.packetWritesSpec) :=
  OpenClaim.holds_of_wide 20 Try.f20 rfl rfl rfl rfl rfl rfl rfl ⟨rfl, rfl, rfl, rfl, rfl⟩ rfl rfl rfl rfl rfl named Try.func20 closed inst wrap
    (fun os started H enc _ => lifted os started H enc)

/-- The statement. -/
theorem proved : Rows.PacketWritesSaid := over
#print axioms proved
end Go.Proofs.Ythndlhflkbidiaa.packetWrites
