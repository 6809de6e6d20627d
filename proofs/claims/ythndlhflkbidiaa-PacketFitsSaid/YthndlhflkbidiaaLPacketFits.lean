/-
  Whether any packet may have any chunk more, within any length: as the document says. No condition.
-/
import Derived.Test.YthndlhflkbidiaaFitR
import Derived.Test.YthndlhflkbidiaaWk10
import Derived.Test.YthndlhflkbidiaaOpenC
namespace Go.Proofs.Ythndlhflkbidiaa.packetFits
open Go.Proofs.Ythndlhflkbidiaa
open Go.ChangeShapes Go.WideShapes Go.ChangeAt Go.RowKit

theorem u8_back' (x : Nat) (h : x < 256) : (UInt8.ofNat x).toNat = x := by simp [Nat.mod_eq_of_lt h]
set_option maxRecDepth 100000 in
set_option maxHeartbeats 1600000 in
theorem walk_ck (t : Nat) (A : Option Addr) (n c : Nat) (cs : List Ck) (ck : Ck) (B : Option Addr) (m d : Nat) (mtu : Int) (w : World) (hx : Cks w A n cs) (hn : n ≤ c) (hc : c ≤ 9223372036854775807) (hr : Rd w B m ck.xs) (hmd : m ≤ d) (hd : d ≤ 9223372036854775807) :
    Calls Try.prog 8 #[.agg #[.int .u32 (t : Int), .slice A n c], .agg #[.int .u8 (ck.k.toNat : Int), .int .u8 (ck.f.toNat : Int), .slice B m d], .int .i64 mtu] w fun e w' => e = .returned (.bool true) ∧ Below w.heap.size w w' := by
  have HL := Lib.hid hx.len
  have hh := row45_heap w (.int .u32 (t : Int)) (.slice A n c) (.int .u8 (ck.k.toNat : Int)) (.int .u8 (ck.f.toNat : Int)) (.slice B m d)
  have t0 : Below w.heap.size w ((w.alloc (.cells #[.int .u32 (t : Int), .slice A n c] 43)).alloc (.cells #[.int .u8 (ck.k.toNat : Int), .int .u8 (ck.f.toNat : Int), .slice B m d] 45)) := ((Below.refl _ _).alloc (Nat.le_refl _) _).alloc (by simp) _
  have hx0 := (hx.alloc (.cells #[.int .u32 (t : Int), .slice A n c] 43)).alloc (.cells #[.int .u8 (ck.k.toNat : Int), .int .u8 (ck.f.toNat : Int), .slice B m d] 45)
  obtain ⟨fb, hfb⟩ : ∃ v, v = fitsB cs ck mtu := ⟨_, rfl⟩
  have HFB := Lib.hid hfb
  clear hfb
  go_enter Try.func8, Try.ntmps8
  go_upto_region 1 with fail
  generalize (w.alloc (.cells #[.int .u32 (t : Int), .slice A n c] 43)).alloc (.cells #[.int .u8 (ck.k.toNat : Int), .int .u8 (ck.f.toNat : Int), .slice B m d] 45) = W0 at *
  have g0 := fun i => cell_of_row W0 w.heap.size i _ 43 (0, 0) hh.1
  go_wp2_with fail
  refine (large10_any t A n c cs _ hx0 (by omega)).mono ?_
  rintro e w1 ⟨L, rfl, hL, hb1⟩
  have t1 := t0.trans (hb1.mono t0.size)
  have n1 := stays hh.1 hb1
  have m1 := stays hh.2 hb1
  have q1 := fun i => cell_of_row w1 w.heap.size i _ 43 (0, 0) n1
  have r1 := fun i => cell_of_row w1 (w.heap.size + 1) i _ 45 (0, 0) m1
  clear g0
  by_cases hbig : L = true ∨ 262144 < m
  · clear hL
    have hm' : L = true ∨ (262144 : Int) < (m : Int) := hbig.imp id (fun h => by omega)
    cases L with
    | true =>
      go_wp2_with (go_at_call 41; refine (works10_any _).mono ?_; rintro e w2 ⟨rfl, hb2⟩)
      go_ret
      exact ⟨rfl, t1.trans (hb2.mono t1.size)⟩
    | false =>
      have hm2 : (262144 : Int) < (m : Int) := by simpa using hm'
      clear hm' hbig
      go_wp2_with (go_at_call 41; refine (works10_any _).mono ?_; rintro e w2 ⟨rfl, hb2⟩)
      go_ret
      exact ⟨rfl, t1.trans (hb2.mono t1.size)⟩
  · obtain rfl : L = false := by cases L <;> simp_all
    have hm2 : ¬ (262144 : Int) < (m : Int) := by omega
    have hm3 : m ≤ 1000000 := by omega
    clear hbig
    obtain ⟨hn5, htot⟩ := hL rfl
    have hmem := total_mem htot
    have HM := Lib.hid (show ∀ c ∈ cs, c.xs.length ≤ 1000000 from fun c hc => by have := hmem c hc; omega)
    clear hL hmem htot
    have hxd : Cks w1.drew A n cs := hx.below t1.drew
    have hrd : Rd w1.drew B m ck.xs := hr.below t1.drew
    have nd : w1.drew.heap[w.heap.size]? = some (.cells #[.int .u32 (t : Int), .slice A n c] 43 (0, 0)) := n1
    have md : w1.drew.heap[w.heap.size + 1]? = some (.cells #[.int .u8 (ck.k.toNat : Int), .int .u8 (ck.f.toNat : Int), .slice B m d] 45 (0, 0)) := m1
    have td := t1.drew
    cases fb
    all_goals (
      go_upto_region 3 with fail
      go_cut [6] (fun x wx => x = .bool true ∧ Below w.heap.size w wx)
      case first =>
        go_region_held3 (fun w' => w'.cell? ⟨w.heap.size, 0, none⟩ = some (.int .u32 (t : Int)) ∧ w'.cell? ⟨w.heap.size, 1, none⟩ = some (.slice A n c) ∧ w'.cell? ⟨w.heap.size + 1, 0, none⟩ = some (.int .u8 (ck.k.toNat : Int)) ∧ w'.cell? ⟨w.heap.size + 1, 1, none⟩ = some (.int .u8 (ck.f.toNat : Int)) ∧ w'.cell? ⟨w.heap.size + 1, 2, none⟩ = some (.slice B m d))
          (first | go_keep | (go_show; fail))
          (first
            | (go_at_call 42; (with_reducible refine (fits_any t A n c cs ck B m d mtu w1.drew hxd hrd hmd hd (by omega) HM.out hm3).mono ?_); rintro e w2 ⟨rfl, hb2⟩; rw [← HFB.out]; have n2 := stays nd hb2; have m2 := stays md hb2; have q2 := fun i => cell_of_row w2 w.heap.size i _ 43 (0, 0) n2; have r2 := fun i => cell_of_row w2 (w.heap.size + 1) i _ 45 (0, 0) m2; have t2 := td.trans (hb2.mono td.size))
            | (go_at_call 43; (with_reducible refine (fitsR_any t A n c cs ck B m d mtu w2 (hxd.below hb2) (hrd.below hb2) hmd hd (by omega) HM.out hm3).mono ?_); rintro e w3 ⟨rfl, hb3⟩; rw [← HFB.out]; have n3 := stays n2 hb3; have m3 := stays m2 hb3; have q3 := fun i => cell_of_row w3 w.heap.size i _ 43 (0, 0) n3; have r3 := fun i => cell_of_row w3 (w.heap.size + 1) i _ 45 (0, 0) m3; have t3 := t2.trans (hb3.mono t2.size))
            | (go_at_call 44; refine (alone_any _ _).mono ?_; rintro e w4 ⟨rfl, rfl⟩)
            | (go_at_call 45; refine (aloneR_any _ _).mono ?_; rintro e w5 ⟨rfl, rfl⟩)
            | (go_at_call 41; refine (works10_any _).mono ?_; rintro e w6 ⟨rfl, hb6⟩; have n6 := stays n3 hb6; have m6 := stays m3 hb6; have q6 := fun i => cell_of_row w6 w.heap.size i _ 43 (0, 0) n6; have r6 := fun i => cell_of_row w6 (w.heap.size + 1) i _ 45 (0, 0) m6; have t6 := t3.trans (hb6.mono t3.size))
            | fail)
        all_goals (
          go_wp2_with fail
          go_meet
          exact ⟨rfl, t6⟩)
      case rest =>
        obtain ⟨rfl, hb9⟩ := hcut
        go_wp2
        go_ret
        exact ⟨rfl, hb9⟩)

theorem walk (t : Nat) (A : Option Addr) (n c : Nat) (cs : List Ck) (k f : Nat) (B : Option Addr) (m d : Nat) (xs : List UInt8) (mtu : Int) (w : World) (_ht : t < 4294967296) (hx : Cks w A n cs) (hn : n ≤ c) (hc : c ≤ 9223372036854775807) (hk : k < 256) (hf : f < 256) (hr : Rd w B m xs) (hmd : m ≤ d) (hd : d ≤ 9223372036854775807) (_lo : -9223372036854775808 ≤ mtu) (_hi : mtu ≤ 9223372036854775807) :
    Calls Try.prog 8 #[.agg #[.int .u32 (t : Int), .slice A n c], .agg #[.int .u8 (k : Int), .int .u8 (f : Int), .slice B m d], .int .i64 mtu] w fun e w' => e = .returned (.bool true) ∧ Below w.heap.size w w' := by
  have h := walk_ck t A n c cs ⟨UInt8.ofNat k, UInt8.ofNat f, xs⟩ B m d mtu w hx hn hc hr hmd hd
  simp only at h
  rw [u8_back' k hk, u8_back' f hf] at h
  exact h

set_option maxRecDepth 100000 in
theorem lifted (os : Os) (started : os.Started) (H : Type) (enc : TypeId × Value → H) :
    ReturnsInHanded {} Try.checked os 8 .any (Rows.packetFitsSpec.pre6 enc Try.prog Try.f8 Rows.packetFitsRow.domain false) (Rows.packetFitsSpec.post enc Try.prog Try.f8 false true false false) := by
  refine returnsInHanded_of_change (C := Try.checked) own started (by kernel_rfl) Try.func8
    (ChangeSpec.witness6 (enc := enc) (C := Try.checked) false ⟨#[], #[.agg #[.int .u32 0, .slice none 0 0], .agg #[.int .u8 0, .int .u8 0, .slice none 0 0], .int .i64 0], []⟩ 8 (by kernel_rfl) (by kernel_rfl) (by kernel_rfl) (by kernel_rfl)) ?_
  intro W base args ds gs before hval0 hW _ _
  have hval : ∀ (j : Nat) t v, Try.f8.params[j]? = some t → args[j]? = some v → Value.okWide Try.prog W .any base t v := hval0
  have hW' := hW
  obtain ⟨p, q, hA0, hV, rfl, _, _⟩ := hW
  have hA : DataW.TrodAll enc Try.prog W 0 (fun _ => true) true Try.f8.params.toList args.toList ds p := hA0
  have hA1 := hA
  rw [Try.params8] at hA hval
  obtain ⟨v0, vs0, d0, ds0, p0, q0, hargs, rfl, rfl, h0, r0⟩ := trodAll_cons hA
  obtain ⟨v1, vs1, d1, ds1, p1, q1, rfl, rfl, rfl, h1, r1⟩ := trodAll_cons r0
  obtain ⟨v2, vs2, d2, ds2, p2, q2, rfl, rfl, rfl, h2, r2⟩ := trodAll_cons r1
  obtain ⟨rfl, rfl, rfl⟩ := trodAll_nil r2
  obtain rfl : args = #[v0, v1, v2] := by cases args; simp_all
  obtain ⟨rfl, rfl⟩ := trodVars_none hV
  obtain ⟨g0, A0, n0, c0, cs0, rfl, hg0, hx0, hn0, hc0⟩ := packet_of (hval 0 43 v0 rfl rfl) h0
  obtain ⟨k1, f1, A1, n1, c1, xs1, rfl, hk1, hf1, hx1, hn1, hc1⟩ := chunk_of (hval 1 45 v1 rfl rfl) h1
  obtain ⟨a2, rfl, lo2, hi2⟩ := i64_of (hval 2 3 v2 rfl rfl) h2
  clear hA0 hval0
  simp only [List.append_nil] at hW' hA1
  refine (walk g0 A0 n0 c0 cs0 k1 f1 A1 n1 c1 xs1 a2 W hg0 hx0 hn0 hc0 hk1 hf1 hx1 hn1 hc1 lo2 hi2).mono fun e W' ⟨he, bel⟩ => ?_
  subst he
  exact ⟨_, rfl, post_law (by kernel_rfl) rfl rfl (by rw [Try.params8]; intro t ht; simp at ht; rcases ht with rfl | rfl | rfl <;> exact ⟨by kernel_rfl, of_decide_eq_true (by kernel_rfl)⟩) hW' hA1 bel⟩

theorem closed : joinedFacts Try.prog 8 Try.f8 Rows.packetFitsSpec Rows.packetFitsRow = true :=
  closed_of (by kernel_rfl) laidOut mapsRowed0 (by kernel_rfl) (by kernel_rfl) (by kernel_rfl) stops0 (by kernel_rfl) knobs0 (by kernel_rfl) (by kernel_rfl) (by kernel_rfl) (by kernel_rfl) (by kernel_rfl) (by kernel_rfl) (by kernel_rfl)
    (by kernel_rfl) (by kernel_rfl) (by kernel_rfl) (by kernel_rfl) (by kernel_rfl) (by kernel_rfl) (by kernel_rfl) (by kernel_rfl) heard0 enter0 final0 rfl make0 rfl rfl rfl (by kernel_rfl) (by kernel_rfl) (by kernel_rfl)
theorem named : Try.prog.funcNamed Rows.packetFitsRow.func = some 8 := by kernel_rfl
theorem inst : Try.f8.isInstance Try.prog Rows.packetFitsRow.origin Rows.packetFitsRow.targs := of_decide_eq_true (by kernel_rfl)
theorem wrap : Try.f8.isWrapper Try.prog Rows.packetFitsRow.wrapper Rows.packetFitsRow.mainSum := by
  unfold Func.isWrapper
  rw [if_neg (by decide +kernel)]
  exact ⟨rfl, rfl⟩
theorem over : Rows.packetFitsRow.holds Try.pinned (OpenSpec.ofChange Rows.packetFitsSpec) :=
  OpenClaim.holds_of_wide 8 Try.f8 rfl rfl rfl rfl rfl rfl rfl ⟨rfl, rfl, rfl, rfl, rfl⟩ rfl rfl rfl rfl rfl named Try.func8 closed inst wrap
    (fun os started H enc _ => lifted os started H enc)

/-- The statement. -/
theorem proved : Rows.PacketFitsSaid := over
#print axioms proved
end Go.Proofs.Ythndlhflkbidiaa.packetFits
