/-
  A packet's bytes of which one is turned and whose sum is laid anew. For every packet, place and byte. No condition.
-/
import Derived.Test.YthndlhflkbidiaaPkFormL
import Derived.Test.YthndlhflkbidiaaWk10
import Derived.Test.YthndlhflkbidiaaOpenT
namespace Go.Proofs.Ythndlhflkbidiaa.packetForms
open Go.Proofs.Ythndlhflkbidiaa
open Go.ChangeShapes Go.WideShapes Go.ChangeAt Go.RowKit

theorem rd_nul3 (w : World) : Rd (w.alloc (.cells #[.int .u8 0, .int .u8 0, .int .u8 0] 5)) (some ⟨w.heap.size, 0, none⟩) 3 [0, 0, 0] :=
  (Blk.bo (xs := [0, 0, 0]) (ys := []) (base := 0) (n := 3) (c := 3) (Blk.new w [0, 0, 0]) (by omega) rfl rfl (by unfold maxLen; omega)).rd
set_option maxRecDepth 100000 in
set_option maxHeartbeats 1600000 in
theorem walk (t : Nat) (A : Option Addr) (n c : Nat) (cs : List Ck) (i u : Nat) (w : World) (ht : t < 4294967296) (hx : Cks w A n cs) (hn : n ≤ c) (hc : c ≤ 9223372036854775807) (hi : i < 65536) (hu : u < 256) :
    Calls Try.prog 24 #[.agg #[.int .u32 (t : Int), .slice A n c, .int .u16 (i : Int), .int .u8 (u : Int)]] w fun e w' => e = .returned (.bool true) ∧ Below w.heap.size w w' := by
  have HL := Lib.hid hx.len
  have t0 : Below w.heap.size w (w.alloc (.cells #[.int .u32 (t : Int), .slice A n c, .int .u16 (i : Int), .int .u8 (u : Int)] 79)) := (Below.refl _ _).alloc (Nat.le_refl _) _
  go_enter Try.func24, Try.ntmps24
  go_wp2_with fail
  refine (large10_any t A n c cs _ (hx.alloc _) (by omega)).mono ?_
  rintro e w1 ⟨L, rfl, hL, hb1⟩
  have t1 := t0.trans (hb1.mono t0.size)
  cases L with
  | true =>
    clear hL
    go_wp2_with (go_at_call 41; refine (works10_any _).mono ?_; rintro e w2 ⟨rfl, hb2⟩)
    go_ret
    exact ⟨rfl, t1.trans (hb2.mono t1.size)⟩
  | false =>
    obtain ⟨hn5, htot⟩ := hL rfl
    have hsz := sizeB_le cs
    have hszm : sizeB cs ≤ 900000 := by unfold total at htot hsz; rw [hx.len] at htot hsz; omega
    clear hL hsz htot
    have old1 := stays (heap_alloc_new w _) hb1
    have q1 := fun i => cell_of_row w1 w.heap.size i _ 79 (0, 0) old1
    go_wp2_with fail
    refine (write10_any t A n c cs _ ht (hx.below t1) (by omega)).mono ?_
    obtain ⟨Z, hZ⟩ : ∃ Z, Z = pkB t cs := ⟨_, rfl⟩
    obtain ⟨m1, hm1⟩ : ∃ k, k = Z.length := ⟨_, rfl⟩
    have hcase : m1 = 0 ∨ mayB cs = true ∧ 12 ≤ m1 ∧ m1 ≤ 900000 := by
      by_cases h : mayB cs = true
      · have h2 := pkB_length (t := t) h
        rw [← hZ, ← hm1] at h2
        exact .inr ⟨h, by rw [h2]; unfold sizeB; omega, by omega⟩
      · have h2 := pkB_nil (t := t) (cs := cs) (by simpa using h)
        rw [← hZ] at h2
        rw [h2] at hm1
        exact .inl hm1
    rw [← hZ, ← hm1]
    have HZ := Lib.hid hZ
    have HMM := Lib.hid hm1
    clear hZ q1 hm1
    rintro e w3 ⟨A3, c3, rfl, hB3, hb3⟩
    have old3 := stays old1 hb3
    have t3 := t1.trans (hb3.mono t1.size)
    have q3 := fun i => cell_of_row w3 w.heap.size i _ 79 (0, 0) old3
    have hc3 : c3 ≤ 9223372036854775807 := by have := hB3.2.2.1; unfold maxLen at this; omega
    rcases hcase with hm0 | ⟨hmay, hpos, hms⟩
    · subst hm0
      go_wp2_with (go_at_call 41; refine (works10_any _).mono ?_; rintro e w2 ⟨rfl, hb2⟩)
      go_ret
      exact ⟨rfl, t3.trans (hb2.mono t3.size)⟩
    · obtain ⟨p, hp⟩ : ∃ p, p = i % 8 := ⟨_, rfl⟩
      have hp8 : p < 8 := by omega
      have hpI : (i : Int) % 8 = (p : Int) := by omega
      have hpm : (p : Int) < (m1 : Int) := by omega
      obtain ⟨g, rfl, hg, hcell, hfr, hB4⟩ := hB3.set_ p (UInt8.ofNat u) (by omega)
      clear hp
      obtain ⟨V, hV⟩ : ∃ x, x = UInt8.ofNat u := ⟨_, rfl⟩
      have hVu : V.toNat = u := by rw [hV]; simp [Nat.mod_eq_of_lt hu]
      rw [← hV, hVu] at hB4
      clear hV
      go_upto_region 9 with fail
      obtain ⟨X, hX⟩ : ∃ x, x = Z.set p V := ⟨_, rfl⟩
      rw [← hX] at hB4
      have l1 := lt_of_block old1
      have t4 := t3.setCell (p := ⟨g, p, none⟩) (by have := t1.size; simp; omega) (.int .u8 (u : Int))
      have old4 := (Below.heap_setCell w3 ⟨g, p, none⟩ (.int .u8 (u : Int)) w.heap.size (by simp; omega)).trans old3
      generalize w3.setCell ⟨g, p, none⟩ (.int .u8 (u : Int)) = w4 at *
      have hform := form_read t cs ht hmay p V hp8 Z HZ.out
      rw [← hX, hVu] at hform
      have hshort := form_short Z (by rw [← HMM.out]; omega)
      have hlong := form_long t cs hmay Z HZ.out
      have hback : X.set p (UInt8.ofNat (gb Z p)) = Z := by rw [hX]; exact set_back Z p V (by rw [← HMM.out]; omega)
      have HBK := Lib.hid hback
      have HSH := Lib.hid hshort
      have HLO := Lib.hid hlong
      clear hX hVu hback hshort hlong q3
      go_wp2_with fail
      refine (summed_any _ m1 c3 X w4 hB4.rd hpos (by omega)).mono ?_
      rintro e w5 ⟨A5, c5, rfl, hB5, hb5⟩
      go_wp2_with fail
      refine (pkrd_any A5 m1 c5 (sumdB X) w5 hB5.rd hB5.2.1 (by have := hB5.2.2.1; unfold maxLen at this; omega) (by omega)).mono ?_
      rintro e w6 ⟨A6, n6, c6, ps6, rfl, _, _, _, hb6⟩
      obtain ⟨er, her⟩ : ∃ x, x = pkErr (sumdB X) := ⟨_, rfl⟩
      obtain ⟨tg, htg⟩ : ∃ x, x = pkTag (sumdB X) := ⟨_, rfl⟩
      rw [← her, ← htg] at hform
      rw [← her, ← htg]
      clear her htg hB5
      have hcs : (p < 4 ∧ u = gb Z p ∧ er = 0) ∨ (p < 4 ∧ u ≠ gb Z p ∧ er = 7) ∨ (¬ p < 4 ∧ u = gb Z p ∧ er = 0 ∧ tg = t) ∨ (¬ p < 4 ∧ u ≠ gb Z p ∧ er = 0 ∧ tg ≠ t) := by
        by_cases h4 : p < 4
        · have h1 := hform.1 h4
          by_cases hv : u = gb Z p
          · rw [if_pos hv] at h1; exact .inl ⟨h4, hv, h1⟩
          · rw [if_neg hv] at h1; exact .inr (.inl ⟨h4, hv, h1⟩)
        · obtain ⟨h1, h2⟩ := hform.2 (by omega)
          by_cases hv : u = gb Z p
          · exact .inr (.inr (.inl ⟨h4, hv, h1, h2.2 hv⟩))
          · exact .inr (.inr (.inr ⟨h4, hv, h1, fun e => hv (h2.1 e)⟩))
      clear hform
      obtain ⟨R, hR⟩ : ∃ R : Obj, R = .cells #[.int .u32 (tg : Int), .slice A6 n6 c6] 43 := ⟨_, rfl⟩
      have t5 := t4.trans (hb5.mono t4.size)
      have t6 := t5.trans (hb6.mono t5.size)
      have t6' := t6.alloc t6.size R
      have old6 := stays (stays old4 hb5) hb6
      have l6 := lt_of_block old6
      have old6' := (Below.heap_alloc w6 R _ l6).trans old6
      have q6 := fun i => cell_of_row (w6.alloc R) w.heap.size i _ 79 (0, 0) old6'
      have r6 := fun i => cell_of_row (w6.alloc R) w6.heap.size i _ 43 (0, 0) (by rw [hR]; exact heap_alloc_new w6 _)
      have hB6 := ((hB4.below hb5).below hb6).alloc R
      obtain ⟨g2, hg2, _, hcell2, hfr2, hB7⟩ := hB6.set_ p (UInt8.ofNat (gb Z p)) (by omega)
      obtain rfl : g = g2 := by simpa using hg2
      have hgk : (UInt8.ofNat (gb Z p)).toNat = gb Z p := by simp [Nat.mod_eq_of_lt (gb_lt Z p)]
      rw [HBK.out, hgk] at hB7
      have t7 := t6'.setCell (p := ⟨g, p, none⟩) (by have := t1.size; simp; omega) (.int .u8 (gb Z p : Int))
      subst hR
      have h12c : (12 : Int) ≤ (c3 : Int) := by have := hB3.2.1; omega
      rcases hcs with ⟨h4, hv, rfl⟩ | ⟨h4, hv, rfl⟩ | ⟨h4, hv, rfl, htg⟩ | ⟨h4, hv, rfl, htg⟩
      all_goals (
        try (have h4' : (p : Int) < 4 := by omega)
        try (have h4' : ¬ (p : Int) < 4 := by omega)
        try (have hv' : ((u : Int) == (gb Z p : Int)) = true := by simp [hv])
        try (have hv' : ((u : Int) == (gb Z p : Int)) = false := by simp; omega)
        try (have htg' : ((tg : Int) == (t : Int)) = true := by simp [htg])
        try (have htg' : ((tg : Int) == (t : Int)) = false := by simp; omega)
        clear hv h4
        try clear htg
        go_upto_region 15 with fail
        clear q6 r6 hcell hcell2 hfr hfr2 h4' hv' hB6
        try clear htg'
        obtain ⟨w7, hw7⟩ : ∃ x, x = (w6.alloc (.cells #[.int .u32 (tg : Int), .slice A6 n6 c6] 43)).setCell ⟨g, p, none⟩ (.int .u8 (gb Z p : Int)) := ⟨_, rfl⟩
        rw [← hw7] at t7 hB7
        rw [← hw7]
        clear hw7
        go_wp2_with fail
        refine (summed_any _ 12 c3 (Z.take 12) w7 (hB7.rd.take (by omega)) (by omega) (by omega)).mono ?_
        rintro e v1 ⟨B1, d1, rfl, hC1, hv1⟩
        go_wp2_with fail
        refine (pkrd_any B1 12 d1 _ v1 hC1.rd hC1.2.1 (by have := hC1.2.2.1; unfold maxLen at this; omega) (by omega)).mono ?_
        rintro e v2 ⟨B2, k2, d2, ps2, rfl, _, _, _, hv2⟩
        rw [HSH.out]
        have s1 := t7.trans (hv1.mono t7.size)
        have s2 := s1.trans (hv2.mono s1.size)
        clear hC1
        generalize (pkTag (sumdB (Z.take 12)) : Int) = tg2
        have s2' := s2.alloc s2.size (.cells #[.int .u32 tg2, .slice B2 k2 d2] 43)
        have hB8 := ((hB7.below hv1).below hv2).alloc (.cells #[.int .u32 tg2, .slice B2 k2 d2] 43)
        go_wp2_with fail
        generalize v2.alloc (.cells #[.int .u32 tg2, .slice B2 k2 d2] 43) = v3 at *
        refine (copy_any _ m1 c3 Z v3 hB8.rd (by omega)).mono ?_
        rintro e v4 ⟨B4, d4, rfl, hC4, hv4⟩
        have s4 := s2'.trans (hv4.mono s2'.size)
        have hCa := hC4.alloc (.cells #[.int .u8 0, .int .u8 0, .int .u8 0] 5)
        have s4' := s4.alloc s4.size (.cells #[.int .u8 0, .int .u8 0, .int .u8 0] 5)
        go_wp2_with (at_builtin; refine wpList_bytes R22 _ rfl (.tmp 102) (.tmp 103) rfl v3.heap.size rfl rfl hCa (rd_nul3 v4) (by omega) (by have := hv4.size; simp; omega) ?_; intro B5 d5 v5 hC5 hg5 hor5)
        have s5 := s4'.trans ((below_grown hCa hg5 (by have := hv4.size; simp; omega)).mono s2'.size)
        clear hor5 hg5
        refine (summed_any _ (m1 + 3) d5 (Z ++ [0, 0, 0]) v5 hC5.rd (by omega) (by omega)).mono ?_
        rintro e v6 ⟨B6, d6, rfl, hC6, hv6⟩
        go_wp2_with fail
        refine (pkrd_any B6 (m1 + 3) d6 _ v6 hC6.rd hC6.2.1 (by have := hC6.2.2.1; unfold maxLen at this; omega) (by omega)).mono ?_
        rintro e v7 ⟨B7, k7, d7, ps7, rfl, _, _, _, hv7⟩
        rw [HLO.out]
        have s6 := s5.trans (hv6.mono s5.size)
        have s7 := s6.trans (hv7.mono s6.size)
        generalize (pkTag (sumdB (Z ++ [0, 0, 0])) : Int) = tg3
        have s7' := s7.alloc s7.size (.cells #[.int .u32 tg3, .slice B7 k7 d7] 43)
        go_wp2_with (go_at_call 41; refine (works10_any _).mono ?_; rintro e v8 ⟨rfl, hv8⟩)
        go_ret
        exact ⟨rfl, s7'.trans (hv8.mono s7'.size)⟩)

set_option maxRecDepth 100000 in
theorem lifted (os : Os) (started : os.Started) (H : Type) (enc : TypeId × Value → H) :
    ReturnsInHanded {} Try.checked os 24 .any (Rows.packetFormsSpec.pre6 enc Try.prog Try.f24 Rows.packetFormsRow.domain false) (Rows.packetFormsSpec.post enc Try.prog Try.f24 false true false false) := by
  refine returnsInHanded_of_change (C := Try.checked) own started (by kernel_rfl) Try.func24
    (ChangeSpec.witness6 (enc := enc) (C := Try.checked) false ⟨#[], #[.agg #[.int .u32 0, .slice none 0 0, .int .u16 0, .int .u8 0]], []⟩ 8 (by kernel_rfl) (by kernel_rfl) (by kernel_rfl) (by kernel_rfl)) ?_
  intro W base args ds gs before hval0 hW _ _
  have hval : ∀ (j : Nat) t v, Try.f24.params[j]? = some t → args[j]? = some v → Value.okWide Try.prog W .any base t v := hval0
  have hW' := hW
  obtain ⟨p, q, hA0, hV, rfl, _, _⟩ := hW
  have hA : DataW.TrodAll enc Try.prog W 0 (fun _ => true) true Try.f24.params.toList args.toList ds p := hA0
  have hA1 := hA
  rw [Try.params24] at hA hval
  obtain ⟨v0, vs0, d0, ds0, p0, q0, hargs, rfl, rfl, h0, r0⟩ := trodAll_cons hA
  obtain ⟨rfl, rfl, rfl⟩ := trodAll_nil r0
  obtain rfl : args = #[v0] := by cases args; simp_all
  obtain ⟨rfl, rfl⟩ := trodVars_none hV
  obtain ⟨g0, A0, n0, c0, cs0, i0, v0, rfl, hg0, hx0, hn0, hc0, hi0, hv0⟩ := turn_of (hval 0 79 v0 rfl rfl) h0
  clear hA0 hval0
  simp only [List.append_nil] at hW' hA1
  refine (walk g0 A0 n0 c0 cs0 i0 v0 W hg0 hx0 hn0 hc0 hi0 hv0).mono fun e W' ⟨he, bel⟩ => ?_
  subst he
  exact ⟨_, rfl, post_law (by kernel_rfl) rfl rfl (by rw [Try.params24]; intro t ht; simp at ht; subst ht; exact ⟨by kernel_rfl, of_decide_eq_true (by kernel_rfl)⟩) hW' hA1 bel⟩

theorem closed : joinedFacts Try.prog 24 Try.f24 Rows.packetFormsSpec Rows.packetFormsRow = true :=
  closed_of (by kernel_rfl) laidOut mapsRowed0 (by kernel_rfl) (by kernel_rfl) (by kernel_rfl) stops0 (by kernel_rfl) knobs0 (by kernel_rfl) (by kernel_rfl) (by kernel_rfl) (by kernel_rfl) (by kernel_rfl) (by kernel_rfl) (by kernel_rfl)
    (by kernel_rfl) (by kernel_rfl) (by kernel_rfl) (by kernel_rfl) (by kernel_rfl) (by kernel_rfl) (by kernel_rfl) (by kernel_rfl) heard0 enter0 final0 rfl make0 rfl rfl rfl (by kernel_rfl) (by kernel_rfl) (by kernel_rfl)
theorem named : Try.prog.funcNamed Rows.packetFormsRow.func = some 24 := by kernel_rfl
theorem inst : Try.f24.isInstance Try.prog Rows.packetFormsRow.origin Rows.packetFormsRow.targs := of_decide_eq_true (by kernel_rfl)
theorem wrap : Try.f24.isWrapper Try.prog Rows.packetFormsRow.wrapper Rows.packetFormsRow.mainSum := by
  unfold Func.isWrapper
  rw [if_neg (by decide +kernel)]
  exact ⟨rfl, rfl⟩
theorem over : Rows.packetFormsRow.holds Try.pinned (OpenSpec.ofChange Rows.packetFormsSpec) :=
  OpenClaim.holds_of_wide 24 Try.f24 rfl rfl rfl rfl rfl rfl rfl ⟨rfl, rfl, rfl, rfl, rfl⟩ rfl rfl rfl rfl rfl named Try.func24 closed inst wrap
    (fun os started H enc _ => lifted os started H enc)

/-- The statement. -/
theorem proved : Rows.PacketFormsSaid := over
#print axioms proved
end Go.Proofs.Ythndlhflkbidiaa.packetForms
