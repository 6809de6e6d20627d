/-
  A packet that is written is read; any bytes of which a packet is read are those that are written of it. For every packet and all bytes. No condition.
-/
import Derived.Test.YthndlhflkbidiaaPkMore
import Derived.Test.YthndlhflkbidiaaWk10
import Derived.Test.YthndlhflkbidiaaOpenK
namespace Go.Proofs.Ythndlhflkbidiaa.packetBack
open Go.Proofs.Ythndlhflkbidiaa
open Go.ChangeShapes Go.WideShapes Go.ChangeAt Go.RowKit

theorem walk_big (t : Nat) (A : Option Addr) (n c : Nat) (cs : List Ck) (B : Option Addr) (m d : Nat) (w : World) (hx : Cks w A n cs) (hn : n ≤ c) (hc : c ≤ 9223372036854775807) (hm : (m : Int) ≤ 9223372036854775807) (h : 16384 < m) :
    Calls Try.prog 22 #[.agg #[.int .u32 (t : Int), .slice A n c], .slice B m d] w fun e w' => e = .returned (.bool true) ∧ Below w.heap.size w w' := by
  have h' : (16384 : Int) < (m : Int) := by omega
  have t0 : Below w.heap.size w (w.alloc (.cells #[.int .u32 (t : Int), .slice A n c] 43)) := (Below.refl _ _).alloc (Nat.le_refl _) _
  go_enter Try.func22, Try.ntmps22
  go_wp2_with fail
  refine (large10_any t A n c cs _ (hx.alloc _) (by omega)).mono ?_
  rintro e w1 ⟨L, rfl, hL, hb1⟩
  clear hL
  have t1 := t0.trans (hb1.mono t0.size)
  cases L
  all_goals (
    go_wp2_with (go_at_call 41; refine (works10_any _).mono ?_; rintro e w2 ⟨rfl, hb2⟩)
    go_ret
    exact ⟨rfl, t1.trans (hb2.mono t1.size)⟩)

set_option maxRecDepth 100000 in
set_option maxHeartbeats 1600000 in
theorem walk_go (t : Nat) (A : Option Addr) (n c : Nat) (cs : List Ck) (B : Option Addr) (m d : Nat) (ys : List UInt8) (w : World) (ht : t < 4294967296) (hx : Cks w A n cs) (hn : n ≤ c) (hc : c ≤ 9223372036854775807) (hy : Rd w B m ys) (hmd : m ≤ d) (hd : d ≤ 9223372036854775807) (h : m ≤ 16384) :
    Calls Try.prog 22 #[.agg #[.int .u32 (t : Int), .slice A n c], .slice B m d] w fun e w' => e = .returned (.bool true) ∧ Below w.heap.size w w' := by
  have h' : ¬ (16384 : Int) < (m : Int) := by omega
  have HL := Lib.hid hx.len
  have HY := Lib.hid hy.len
  have t0 : Below w.heap.size w (w.alloc (.cells #[.int .u32 (t : Int), .slice A n c] 43)) := (Below.refl _ _).alloc (Nat.le_refl _) _
  go_enter Try.func22, Try.ntmps22
  go_wp2_with fail
  refine (large10_any t A n c cs _ (hx.alloc _) (by omega)).mono ?_
  rintro e w1 ⟨L, rfl, hL, hb1⟩
  have t1 := t0.trans (hb1.mono t0.size)
  cases L with
  | true =>
    clear hL
    go_wp2_with (go_at_call 41; refine (works10_any _).mono ?_; rintro e w2 ⟨rfl, hb2⟩)
    go_ret
    exact ⟨rfl, t1.trans (hb2.mono t1.size)⟩
  | false =>
    obtain ⟨hn5, htot⟩ := hL rfl
    have hmem := total_mem htot
    have hsz := sizeB_le cs
    rw [hx.len] at hsz
    have HM := Lib.hid (show ∀ c ∈ cs, c.xs.length ≤ 1000000 from fun c hc => by have := hmem c hc; omega)
    have HM2 := Lib.hid (show ∀ c ∈ cs, c.xs.length ≤ 9223372036854775807 from fun c hc => by have := hmem c hc; omega)
    have hszm : sizeB cs ≤ 1000000 := by unfold total at htot; rw [hx.len] at htot; unfold total at hsz; rw [hx.len] at hsz; omega
    clear hL hmem hsz htot
    have old1 := stays (heap_alloc_new w _) hb1
    have q1 := fun i => cell_of_row w1 w.heap.size i _ 43 (0, 0) old1
    go_wp2_with fail
    refine (write10_any t A n c cs _ ht (hx.below t1) (by omega)).mono ?_
    obtain ⟨Z, hZ⟩ : ∃ Z, Z = pkB t cs := ⟨_, rfl⟩
    obtain ⟨m1, hm1⟩ : ∃ k, k = Z.length := ⟨_, rfl⟩
    have hcase : m1 = 0 ∨ mayB cs = true ∧ 0 < m1 ∧ m1 = sizeB cs := by
      by_cases h : mayB cs = true
      · have h2 := pkB_length (t := t) h
        rw [← hZ, ← hm1] at h2
        exact .inr ⟨h, by rw [h2]; unfold sizeB; omega, h2⟩
      · have h2 := pkB_nil (t := t) (cs := cs) (by simpa using h)
        rw [← hZ] at h2
        rw [h2] at hm1
        exact .inl hm1
    rw [← hZ, ← hm1]
    have HZ := Lib.hid hZ
    have HMM := Lib.hid hm1
    clear hZ q1 hm1
    rintro e w3 ⟨A3, c3, rfl, hB3, hb3⟩
    have old3 := stays old1 hb3
    have t3 := t1.trans (hb3.mono t1.size)
    have q3 := fun i => cell_of_row w3 w.heap.size i _ 43 (0, 0) old3
    have hc3 : c3 ≤ 9223372036854775807 := by have := hB3.2.2.1; unfold maxLen at this; omega
    rcases hcase with hm0 | ⟨hmay, hpos, hms⟩
    · subst hm0
      go_wp2_with fail
      refine (pkrd_any B m d ys w3 (hy.below t3) hmd hd (by omega)).mono ?_
      rintro e u1 ⟨A4, n4, c4, ps4, rfl, hown, hps, hbod, hub1⟩
      have s1 := t3.trans (hub1.mono t3.size)
      obtain ⟨hn4, hck4⟩ := hown.cks hbod.ok
      rw [hps, ← hn4] at hck4
      clear hps hn4 hown hbod
      have hnl := hck4.len
      have hfew := pkCks_few ys
      have htl := pkTag_lt ys
      have hyl := hy.len
      have s1' := s1.alloc s1.size (.cells #[.int .u32 (pkTag ys : Int), .slice A4 n4 c4] 43)
      rcases pkErr_which ys with he | he | he
      · have g1 := (pk_good he).1
        obtain ⟨tg, htg⟩ : ∃ x, x = pkTag ys := ⟨_, rfl⟩
        obtain ⟨ks, hks⟩ : ∃ x, x = pkCks ys := ⟨_, rfl⟩
        rw [← htg, ← hks] at g1
        rw [← hks] at hck4 hfew hnl
        rw [← htg] at s1' htl
        rw [he, ← htg]
        have HG := Lib.hid g1
        clear g1 hks htg he
        go_wp2_with fail
        refine (write10_any tg A4 n4 c4 ks _ htl (hck4.alloc _) (by omega)).mono ?_
        rw [← HG.out, hyl]
        rintro e u2 ⟨A5, c5, rfl, hB5, hub2⟩
        have s2 := s1'.trans (hub2.mono s1'.size)
        have EY := Lib.hid (show eqB ys ys = true by simp [eqB])
        go_wp2_with fail
        refine (eq_any _ _ _ _ _ _ ys ys _ hB5.rd (hy.below s2) (by omega)).mono ?_
        rintro e u3 ⟨rfl, kq, rfl⟩
        rw [EY.out]
        have s3 := below_drewN s2 kq
        go_wp2_with (go_at_call 41; refine (works10_any _).mono ?_; rintro e u4 ⟨rfl, hub4⟩)
        go_ret
        exact ⟨rfl, s3.trans (hub4.mono s3.size)⟩
      all_goals (
        obtain ⟨hc0, ht0⟩ := pkCks_bad (b := ys) (by omega)
        rw [hc0] at hnl
        have hn0 : n4 = 0 := by simpa using hnl.symm
        subst hn0
        rw [ht0] at s1'
        rw [he, ht0]
        clear hnl hfew htl hck4 hc0 ht0 he
        go_wp2_with (go_at_call 41; refine (works10_any _).mono ?_; rintro e u4 ⟨rfl, hub4⟩)
        go_ret
        exact ⟨rfl, s1'.trans (hub4.mono s1'.size)⟩)
    · have hgood := pk_read_written t cs ht hmay
      rw [← HZ.out] at hgood
      have HGOOD := Lib.hid hgood
      have hmod := sizeB_mod cs
      rw [← hms] at hmod hszm
      have hr4 : ((m1 : Int) % 4 != 0) = false := by simp; omega
      have hpos' : (0 : Int) < (m1 : Int) := by omega
      have HMS := Lib.hid hms
      clear hgood hmay hmod hms
      go_wp2_with fail
      refine (pkrd_any A3 m1 c3 Z w3 hB3.rd hB3.2.1 hc3 hszm).mono ?_
      rintro e w4 ⟨A2, n2, c2, ps, rfl, hown, hps, hbod, hb4⟩
      rw [HGOOD.out.2.1] at hps
      rw [HGOOD.out.1, HGOOD.out.2.2]
      obtain ⟨hn2, hck2⟩ := hown.cks hbod.ok
      rw [hps] at hck2
      have hn22 : n2 = n := by rw [hn2, ← hck2.len, HL.out]
      rw [← hn2] at hck2
      subst hn22
      clear hps hn2 hown hbod
      have old4 := stays old3 hb4
      have t4 := t3.trans (hb4.mono t3.size)
      have t4' := t4.alloc t4.size (.cells #[.int .u32 (t : Int), .slice A2 n2 c2] 43)
      have hl4 := lt_of_block old4
      have q4 := fun o i => cell_of_row (w4.alloc o) w.heap.size i _ 43 (0, 0) ((Below.heap_alloc w4 o _ hl4).trans old4)
      clear q3
      go_wp2_with fail
      refine (same10_any t _ _ n2 c c2 cs _ (hx.below t4') (hck2.alloc _) (by omega) HM2.out).mono ?_
      rintro e w5 ⟨rfl, hb5⟩
      have t5 := t4'.trans (hb5.mono t4'.size)
      have old5 := stays ((Below.heap_alloc w4 (.cells #[.int .u32 (t : Int), .slice A2 n2 c2] 43) _ hl4).trans old4) hb5
      clear q4
      have q5 := fun i => cell_of_row w5 w.heap.size i _ 43 (0, 0) old5
      go_wp2_with fail
      refine (size10_any t A n2 c cs _ (hx.below t5) (by omega) HM.out).mono ?_
      rintro e w6 ⟨rfl, hb6⟩
      rw [← HMS.out]
      have t6 := t5.trans (hb6.mono t5.size)
      clear q5
      go_wp2_with fail
      refine (pkrd_any B m d ys w6 (hy.below t6) hmd hd (by omega)).mono ?_
      rintro e u1 ⟨A4, n4, c4, ps4, rfl, hown, hps, hbod, hub1⟩
      have s1 := t6.trans (hub1.mono t6.size)
      obtain ⟨hn4, hck4⟩ := hown.cks hbod.ok
      rw [hps, ← hn4] at hck4
      clear hps hn4 hown hbod
      have hnl := hck4.len
      have hfew := pkCks_few ys
      have htl := pkTag_lt ys
      have hyl := hy.len
      have s1' := s1.alloc s1.size (.cells #[.int .u32 (pkTag ys : Int), .slice A4 n4 c4] 43)
      rcases pkErr_which ys with he | he | he
      · have g1 := (pk_good he).1
        obtain ⟨tg, htg⟩ : ∃ x, x = pkTag ys := ⟨_, rfl⟩
        obtain ⟨ks, hks⟩ : ∃ x, x = pkCks ys := ⟨_, rfl⟩
        rw [← htg, ← hks] at g1
        rw [← hks] at hck4 hfew hnl
        rw [← htg] at s1' htl
        rw [he, ← htg]
        have HG := Lib.hid g1
        clear g1 hks htg he
        go_wp2_with fail
        refine (write10_any tg A4 n4 c4 ks _ htl (hck4.alloc _) (by omega)).mono ?_
        rw [← HG.out, hyl]
        rintro e u2 ⟨A5, c5, rfl, hB5, hub2⟩
        have s2 := s1'.trans (hub2.mono s1'.size)
        have EY := Lib.hid (show eqB ys ys = true by simp [eqB])
        go_wp2_with fail
        refine (eq_any _ _ _ _ _ _ ys ys _ hB5.rd (hy.below s2) (by omega)).mono ?_
        rintro e u3 ⟨rfl, kq, rfl⟩
        rw [EY.out]
        have s3 := below_drewN s2 kq
        go_wp2_with (go_at_call 41; refine (works10_any _).mono ?_; rintro e u4 ⟨rfl, hub4⟩)
        go_ret
        exact ⟨rfl, s3.trans (hub4.mono s3.size)⟩
      all_goals (
        obtain ⟨hc0, ht0⟩ := pkCks_bad (b := ys) (by omega)
        rw [hc0] at hnl
        have hn0 : n4 = 0 := by simpa using hnl.symm
        subst hn0
        rw [ht0] at s1'
        rw [he, ht0]
        clear hnl hfew htl hck4 hc0 ht0 he
        go_wp2_with (go_at_call 41; refine (works10_any _).mono ?_; rintro e u4 ⟨rfl, hub4⟩)
        go_ret
        exact ⟨rfl, s1'.trans (hub4.mono s1'.size)⟩)

theorem walk (t : Nat) (A : Option Addr) (n c : Nat) (cs : List Ck) (B : Option Addr) (m d : Nat) (ys : List UInt8) (w : World) (ht : t < 4294967296) (hx : Cks w A n cs) (hn : n ≤ c) (hc : c ≤ 9223372036854775807) (hy : Rd w B m ys) (hmd : m ≤ d) (hd : d ≤ 9223372036854775807) :
    Calls Try.prog 22 #[.agg #[.int .u32 (t : Int), .slice A n c], .slice B m d] w fun e w' => e = .returned (.bool true) ∧ Below w.heap.size w w' := by
  by_cases h : 16384 < m
  · exact walk_big t A n c cs B m d w hx hn hc (by omega) h
  · exact walk_go t A n c cs B m d ys w ht hx hn hc hy hmd hd (by omega)

set_option maxRecDepth 100000 in
theorem lifted (os : Os) (started : os.Started) (H : Type) (enc : TypeId × Value → H) :
    ReturnsInHanded {} Try.checked os 22 .any (Rows.packetBackSpec.pre6 enc Try.prog Try.f22 Rows.packetBackRow.domain false) (Rows.packetBackSpec.post enc Try.prog Try.f22 false true false false) := by
  refine returnsInHanded_of_change (C := Try.checked) own started (by kernel_rfl) Try.func22
    (ChangeSpec.witness6 (enc := enc) (C := Try.checked) false ⟨#[], #[.agg #[.int .u32 0, .slice none 0 0], .slice none 0 0], []⟩ 8 (by kernel_rfl) (by kernel_rfl) (by kernel_rfl) (by kernel_rfl)) ?_
  intro W base args ds gs before hval0 hW _ _
  have hval : ∀ (j : Nat) t v, Try.f22.params[j]? = some t → args[j]? = some v → Value.okWide Try.prog W .any base t v := hval0
  have hW' := hW
  obtain ⟨p, q, hA0, hV, rfl, _, _⟩ := hW
  have hA : DataW.TrodAll enc Try.prog W 0 (fun _ => true) true Try.f22.params.toList args.toList ds p := hA0
  have hA1 := hA
  rw [Try.params22] at hA hval
  obtain ⟨v0, vs0, d0, ds0, p0, q0, hargs, rfl, rfl, h0, r0⟩ := trodAll_cons hA
  obtain ⟨v1, vs1, d1, ds1, p1, q1, rfl, rfl, rfl, h1, r1⟩ := trodAll_cons r0
  obtain ⟨rfl, rfl, rfl⟩ := trodAll_nil r1
  obtain rfl : args = #[v0, v1] := by cases args; simp_all
  obtain ⟨rfl, rfl⟩ := trodVars_none hV
  obtain ⟨g0, A0, n0, c0, cs0, rfl, hg0, hx0, hn0, hc0⟩ := packet_of (hval 0 43 v0 rfl rfl) h0
  obtain ⟨A1, n1, c1, xs1, rfl, hx1, hn1, hc1⟩ := bytes_of (hval 1 22 v1 rfl rfl) h1
  clear hA0 hval0
  simp only [List.append_nil] at hW' hA1
  refine (walk g0 A0 n0 c0 cs0 A1 n1 c1 xs1 W hg0 hx0 hn0 hc0 hx1 hn1 hc1).mono fun e W' ⟨he, bel⟩ => ?_
  subst he
  exact ⟨_, rfl, post_law (by kernel_rfl) rfl rfl (by rw [Try.params22]; intro t ht; simp at ht; rcases ht with rfl | rfl <;> exact ⟨by kernel_rfl, of_decide_eq_true (by kernel_rfl)⟩) hW' hA1 bel⟩

theorem closed : joinedFacts Try.prog 22 Try.f22 Rows.packetBackSpec Rows.packetBackRow = true :=
  closed_of (by kernel_rfl) laidOut mapsRowed0 (by kernel_rfl) (by kernel_rfl) (by kernel_rfl) stops0 (by kernel_rfl) knobs0 (by kernel_rfl) (by kernel_rfl) (by kernel_rfl) (by kernel_rfl) (by kernel_rfl) (by kernel_rfl) (by kernel_rfl)
    (by kernel_rfl) (by kernel_rfl) (by kernel_rfl) (by kernel_rfl) (by kernel_rfl) (by kernel_rfl) (by kernel_rfl) (by kernel_rfl) heard0 enter0 final0 rfl make0 rfl rfl rfl (by kernel_rfl) (by kernel_rfl) (by kernel_rfl)
theorem named : Try.prog.funcNamed Rows.packetBackRow.func = some 22 := by kernel_rfl
theorem inst : Try.f22.isInstance Try.prog Rows.packetBackRow.origin Rows.packetBackRow.targs := of_decide_eq_true (by kernel_rfl)
theorem wrap : Try.f22.isWrapper Try.prog Rows.packetBackRow.wrapper Rows.packetBackRow.mainSum := by
  unfold Func.isWrapper
  rw [if_neg (by decide +kernel)]
  exact ⟨rfl, rfl⟩
theorem over : Rows.packetBackRow.holds Try.pinned (OpenSpec.ofChange Rows.packetBackSpec) :=
  OpenClaim.holds_of_wide 22 Try.f22 rfl rfl rfl rfl rfl rfl rfl ⟨rfl, rfl, rfl, rfl, rfl⟩ rfl rfl rfl rfl rfl named Try.func22 closed inst wrap
    (fun os started H enc _ => lifted os started H enc)

/-- The statement. -/
theorem proved : Rows.PacketBackSaid := over
#print axioms proved
end Go.Proofs.Ythndlhflkbidiaa.packetBack
