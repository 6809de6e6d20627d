/-
  Bits of a packet's bytes turned, within 32 that stand one behind the other and within one of the three parts: the sum tells. For every packet, place and pattern. No condition.
-/
import Derived.Test.YthndlhflkbidiaaBurstL
import Derived.Test.YthndlhflkbidiaaWk10
import Derived.Test.YthndlhflkbidiaaOpenT
namespace Go.Proofs.Ythndlhflkbidiaa.packetBursts
open Go.Proofs.Ythndlhflkbidiaa
open Go.ChangeShapes Go.WideShapes Go.ChangeAt Go.RowKit

theorem u8_back (x : Nat) (h : x < 256) : (UInt8.ofNat x).toNat = x := by simp [Nat.mod_eq_of_lt h]
theorem u8_flip (x r : Nat) (hx : x < 256) (hr : r < 8) : bits .xor .u8 (x : Int) ((2 : Int) ^ r % 256) = ((x ^^^ 2 ^ r : Nat) : Int) ∧ x ^^^ 2 ^ r < 256 := by
  have h2 : 2 ^ r < 256 := Nat.lt_of_lt_of_le (Nat.pow_lt_pow_right (by omega) hr) (by omega)
  have e : (2 : Int) ^ r % 256 = ((2 ^ r : Nat) : Int) := by
    have h3 : ∀ P : Nat, P < 256 → (P : Int) % 256 = (P : Int) := fun P h => by omega
    simpa using h3 (2 ^ r) h2
  exact ⟨by rw [e, u8_xor_nat x _ hx h2], Nat.xor_lt_two_pow (n := 8) (by omega) (by omega)⟩

set_option maxRecDepth 100000 in
set_option maxHeartbeats 1600000 in
theorem walk (t : Nat) (A : Option Addr) (n c : Nat) (cs : List Ck) (i : Int) (u : Nat) (w : World) (ht : t < 4294967296) (hx : Cks w A n cs) (hn : n ≤ c) (hc : c ≤ 9223372036854775807) (_hi : -9223372036854775808 ≤ i ∧ i ≤ 9223372036854775807) (_hu : u < 4294967296) :
    Calls Try.prog 23 #[.agg #[.int .u32 (t : Int), .slice A n c, .int .i64 i, .int .u32 (u : Int)]] w fun e w' => e = .returned (.bool true) ∧ Below w.heap.size w w' := by
  have HL := Lib.hid hx.len
  have t0 : Below w.heap.size w (w.alloc (.cells #[.int .u32 (t : Int), .slice A n c, .int .i64 i, .int .u32 (u : Int)] 76)) := (Below.refl _ _).alloc (Nat.le_refl _) _
  go_enter Try.func23, Try.ntmps23
  go_wp2_with fail
  refine (large10_any t A n c cs _ (hx.alloc _) (by omega)).mono ?_
  rintro e w1 ⟨L, rfl, hL, hb1⟩
  have t1 := t0.trans (hb1.mono t0.size)
  cases L with
  | true =>
    clear hL
    go_wp2_with (go_at_call 41; refine (works10_any _).mono ?_; rintro e w2 ⟨rfl, hb2⟩)
    go_ret
    exact ⟨rfl, t1.trans (hb2.mono t1.size)⟩
  | false =>
    obtain ⟨hn5, htot⟩ := hL rfl
    have hsz := sizeB_le cs
    have hszm : sizeB cs ≤ 900000 := by unfold total at htot hsz; rw [hx.len] at htot hsz; omega
    clear hL hsz htot
    have old1 := stays (heap_alloc_new w _) hb1
    have q1 := fun i => cell_of_row w1 w.heap.size i _ 76 (0, 0) old1
    go_wp2_with fail
    refine (write10_any t A n c cs _ ht (hx.below t1) (by omega)).mono ?_
    obtain ⟨Z, hZ⟩ : ∃ Z, Z = pkB t cs := ⟨_, rfl⟩
    obtain ⟨m1, hm1⟩ : ∃ k, k = Z.length := ⟨_, rfl⟩
    have hcase : m1 = 0 ∨ mayB cs = true ∧ 12 ≤ m1 ∧ m1 ≤ 900000 := by
      by_cases h : mayB cs = true
      · have h2 := pkB_length (t := t) h
        rw [← hZ, ← hm1] at h2
        exact .inr ⟨h, by rw [h2]; unfold sizeB; omega, by omega⟩
      · have h2 := pkB_nil (t := t) (cs := cs) (by simpa using h)
        rw [← hZ] at h2
        rw [h2] at hm1
        exact .inl hm1
    rw [← hZ, ← hm1]
    have HZ := Lib.hid hZ
    have HMM := Lib.hid hm1
    clear hZ q1 hm1
    rintro e w3 ⟨A3, c3, rfl, hB3, hb3⟩
    have old3 := stays old1 hb3
    have t3 := t1.trans (hb3.mono t1.size)
    have q3 := fun i => cell_of_row w3 w.heap.size i _ 76 (0, 0) old3
    have hc3 : c3 ≤ 9223372036854775807 := by have := hB3.2.2.1; unfold maxLen at this; omega
    rcases hcase with hm0 | ⟨hmay, hpos, hms⟩
    · subst hm0
      go_wp2_with (go_at_call 41; refine (works10_any _).mono ?_; rintro e w2 ⟨rfl, hb2⟩)
      go_ret
      exact ⟨rfl, t3.trans (hb2.mono t3.size)⟩
    · have hM : (0 : Int) < 8 * (m1 : Int) := by omega
      have hM0 : (8 * (m1 : Int) == 0) = false := by simp; omega
      have hm10 : ((m1 : Int) == 0) = false := by simp; omega
      go_upto_region 8 with fail
      have l1 := lt_of_block old1
      have hr1 := Int.tmod_lt_of_pos i hM
      have hr2 := Int.lt_tmod_of_pos i hM
      generalize i.tmod (8 * (m1 : Int)) = R at *
      obtain ⟨g, zs, rfl, hg, hl3, hblk⟩ := hB3.blk (by have := hB3.2.1; omega)
      clear hM0
      by_cases hneg : R < 0
      · obtain ⟨fr, hfr⟩ : ∃ fr : Nat, R + 8 * (m1 : Int) = (fr : Int) := ⟨(R + 8 * (m1 : Int)).toNat, by omega⟩
        have hfrm : fr < 8 * m1 := by omega
        go_upto_region 10 with fail
        clear hfr hr1 hr2 hneg
        clear q3
        go_wp2_with fail
        go_loopw [6, 7, 8] (fun pt tn iv wr => ∃ (k part q : Nat) (l : List UInt8), k ≤ 32 ∧ iv = .int .i64 (k : Int) ∧ pt = .int .i64 (part : Int) ∧ tn = .bool (!decide (part = 0)) ∧ Bu Z fr k part q l ∧ Blk wr g (l ++ zs) ∧ Below w.heap.size w wr ∧ wr.heap[w.heap.size]? = some (.cells #[.int .u32 (t : Int), .slice A n c, .int .i64 i, .int .u32 (u : Int)] 76 (0, 0))) (fun _ _ iv _ => 32 - (intOf iv).toNat)
        case atStart => exact ⟨0, 0, 0, Z, by omega, rfl, rfl, rfl, Bu.new Z fr, hblk, t3, old3⟩
        case round =>
          obtain ⟨k, part, q, l, hk, rfl, rfl, rfl, hBu, hB, hb, hold⟩ := hrel
          have q4 := fun i => cell_of_row wr w.heap.size i _ 76 (0, 0) hold
          by_cases hlt : k < 32
          · have hlt' : (k : Int) < 32 := by omega
            obtain ⟨K, hK⟩ : ∃ K, K = fr + k := ⟨_, rfl⟩
            have hKI : (fr : Int) + (k : Int) = (K : Int) := by omega
            have HB := Lib.hid hB
            have HBu := Lib.hid hBu
            have HK := Lib.hid hK
            clear hB hBu
            by_cases hin : 8 * m1 ≤ K
            · have hin' : 8 * (m1 : Int) ≤ (K : Int) := by omega
              clear hK
              go_wp2
              all_goals go_roundw
              all_goals try (simp [intOf]; omega; done)
              all_goals first
                | exact ⟨k + 1, part, q, l, by omega, by go_num, rfl, by simp; try omega, HBu.out.stay, HB.out, hb, hold⟩
                | exact ⟨k + 1, by omega, by go_num, part, rfl, by simp; try omega, q, l, HBu.out.stay, HB.out, hb, hold⟩
            · have hin' : ¬ 8 * (m1 : Int) ≤ (K : Int) := by omega
              have hJm : K / 8 < m1 := by omega
              have hJi : (K : Int) / 8 < (m1 : Int) := by omega
              have h2 := HB.out.cell (k := K / 8) (by rw [List.length_append, HBu.out.len, ← HMM.out]; omega)
              have h3 := HB.out.frozen (K / 8)
              have e1 : gb (l ++ zs) (K / 8) = gb l (K / 8) := by
                unfold gb
                simp [List.getD, List.getElem?_append, show K / 8 < l.length by rw [HBu.out.len, ← HMM.out]; omega]
              rw [e1] at h2
              clear e1
              have hown : (ownOf K = 1 ∧ (K : Int) < 64) ∨ (ownOf K = 2 ∧ 64 ≤ (K : Int) ∧ (K : Int) < 96) ∨ (ownOf K = 3 ∧ 96 ≤ (K : Int)) := by
                unfold ownOf; split <;> (try split) <;> omega
              clear hK
              go_upto_region 17 with fail
              · go_roundw
                case rel => exact ⟨k + 1, by omega, by omega, part, rfl, Iff.rfl, q, l, HBu.out.stay, HB.out⟩
                case measure => simp [intOf]; omega
              · obtain ⟨o, ho⟩ : ∃ o, o = ownOf K := ⟨_, rfl⟩
                have HO := Lib.hid ho
                rw [← ho] at hown
                clear ho
                by_cases hpo : part = 0 ∨ o = part
                · have HPO := Lib.hid hpo
                  rcases hown with ⟨rfl, hk1⟩ | ⟨rfl, hk1, hk2⟩ | ⟨rfl, hk1⟩
                  all_goals rcases hpo with rfl | rfl
                  · go_wp2
                    go_roundw
                    case rel =>
                      obtain ⟨e2, e3⟩ := u8_flip (gb l (K / 8)) (K % 8) (gb_lt _ _) (by omega)
                      rw [e2]
                      have hBk := HB.out.set_ (K / 8) (gb l (K / 8) ^^^ 2 ^ (K % 8)) e3
                      rw [List.set_append_left _ _ (by rw [HBu.out.len, ← HMM.out]; omega)] at hBk
                      have hT := HBu.out.turn (by rw [← HMM.out]; omega) K HK.out (by rw [← HMM.out]; omega) (by rw [← HO.out]; exact HPO.out) (UInt8.ofNat (gb l (K / 8) ^^^ 2 ^ (K % 8))) (u8_back _ e3)
                      rw [← HO.out] at hT
                      exact ⟨k + 1, _, _, _, by omega, by go_num, rfl, rfl, hT, hBk, hb.setCell (p := ⟨g, K / 8, none⟩) (by have := t1.size; simp; omega) _, (Below.heap_setCell wr ⟨g, K / 8, none⟩ _ w.heap.size (by simp; omega)).trans hold⟩
                    case measure => simp [intOf]; omega
                  · go_wp2
                    go_roundw
                    case rel =>
                      obtain ⟨e2, e3⟩ := u8_flip (gb l (K / 8)) (K % 8) (gb_lt _ _) (by omega)
                      rw [e2]
                      have hBk := HB.out.set_ (K / 8) (gb l (K / 8) ^^^ 2 ^ (K % 8)) e3
                      rw [List.set_append_left _ _ (by rw [HBu.out.len, ← HMM.out]; omega)] at hBk
                      have hT := HBu.out.turn (by rw [← HMM.out]; omega) K HK.out (by rw [← HMM.out]; omega) (by rw [← HO.out]; exact HPO.out) (UInt8.ofNat (gb l (K / 8) ^^^ 2 ^ (K % 8))) (u8_back _ e3)
                      rw [← HO.out] at hT
                      exact ⟨k + 1, _, _, _, by omega, by go_num, rfl, rfl, hT, hBk, hb.setCell (p := ⟨g, K / 8, none⟩) (by have := t1.size; simp; omega) _, (Below.heap_setCell wr ⟨g, K / 8, none⟩ _ w.heap.size (by simp; omega)).trans hold⟩
                    case measure => simp [intOf]; omega
                  · go_wp2
                    go_roundw
                    case rel =>
                      obtain ⟨e2, e3⟩ := u8_flip (gb l (K / 8)) (K % 8) (gb_lt _ _) (by omega)
                      rw [e2]
                      have hBk := HB.out.set_ (K / 8) (gb l (K / 8) ^^^ 2 ^ (K % 8)) e3
                      rw [List.set_append_left _ _ (by rw [HBu.out.len, ← HMM.out]; omega)] at hBk
                      have hT := HBu.out.turn (by rw [← HMM.out]; omega) K HK.out (by rw [← HMM.out]; omega) (by rw [← HO.out]; exact HPO.out) (UInt8.ofNat (gb l (K / 8) ^^^ 2 ^ (K % 8))) (u8_back _ e3)
                      rw [← HO.out] at hT
                      exact ⟨k + 1, _, _, _, by omega, by go_num, rfl, rfl, hT, hBk, hb.setCell (p := ⟨g, K / 8, none⟩) (by have := t1.size; simp; omega) _, (Below.heap_setCell wr ⟨g, K / 8, none⟩ _ w.heap.size (by simp; omega)).trans hold⟩
                    case measure => simp [intOf]; omega
                  · go_wp2
                    go_roundw
                    case rel =>
                      obtain ⟨e2, e3⟩ := u8_flip (gb l (K / 8)) (K % 8) (gb_lt _ _) (by omega)
                      rw [e2]
                      have hBk := HB.out.set_ (K / 8) (gb l (K / 8) ^^^ 2 ^ (K % 8)) e3
                      rw [List.set_append_left _ _ (by rw [HBu.out.len, ← HMM.out]; omega)] at hBk
                      have hT := HBu.out.turn (by rw [← HMM.out]; omega) K HK.out (by rw [← HMM.out]; omega) (by rw [← HO.out]; exact HPO.out) (UInt8.ofNat (gb l (K / 8) ^^^ 2 ^ (K % 8))) (u8_back _ e3)
                      rw [← HO.out] at hT
                      exact ⟨k + 1, _, _, _, by omega, by go_num, rfl, rfl, hT, hBk, hb.setCell (p := ⟨g, K / 8, none⟩) (by have := t1.size; simp; omega) _, (Below.heap_setCell wr ⟨g, K / 8, none⟩ _ w.heap.size (by simp; omega)).trans hold⟩
                    case measure => simp [intOf]; omega
                  · go_wp2
                    go_roundw
                    case rel =>
                      obtain ⟨e2, e3⟩ := u8_flip (gb l (K / 8)) (K % 8) (gb_lt _ _) (by omega)
                      rw [e2]
                      have hBk := HB.out.set_ (K / 8) (gb l (K / 8) ^^^ 2 ^ (K % 8)) e3
                      rw [List.set_append_left _ _ (by rw [HBu.out.len, ← HMM.out]; omega)] at hBk
                      have hT := HBu.out.turn (by rw [← HMM.out]; omega) K HK.out (by rw [← HMM.out]; omega) (by rw [← HO.out]; exact HPO.out) (UInt8.ofNat (gb l (K / 8) ^^^ 2 ^ (K % 8))) (u8_back _ e3)
                      rw [← HO.out] at hT
                      exact ⟨k + 1, _, _, _, by omega, by go_num, rfl, rfl, hT, hBk, hb.setCell (p := ⟨g, K / 8, none⟩) (by have := t1.size; simp; omega) _, (Below.heap_setCell wr ⟨g, K / 8, none⟩ _ w.heap.size (by simp; omega)).trans hold⟩
                    case measure => simp [intOf]; omega
                  · go_wp2
                    go_roundw
                    case rel =>
                      obtain ⟨e2, e3⟩ := u8_flip (gb l (K / 8)) (K % 8) (gb_lt _ _) (by omega)
                      rw [e2]
                      have hBk := HB.out.set_ (K / 8) (gb l (K / 8) ^^^ 2 ^ (K % 8)) e3
                      rw [List.set_append_left _ _ (by rw [HBu.out.len, ← HMM.out]; omega)] at hBk
                      have hT := HBu.out.turn (by rw [← HMM.out]; omega) K HK.out (by rw [← HMM.out]; omega) (by rw [← HO.out]; exact HPO.out) (UInt8.ofNat (gb l (K / 8) ^^^ 2 ^ (K % 8))) (u8_back _ e3)
                      rw [← HO.out] at hT
                      exact ⟨k + 1, _, _, _, by omega, by go_num, rfl, rfl, hT, hBk, hb.setCell (p := ⟨g, K / 8, none⟩) (by have := t1.size; simp; omega) _, (Below.heap_setCell wr ⟨g, K / 8, none⟩ _ w.heap.size (by simp; omega)).trans hold⟩
                    case measure => simp [intOf]; omega
                · have hpz : ((part : Int) != 0) = true := by simp; omega
                  have hpz2 : (part : Int) ≠ 0 := by omega
                  have hop : ((o : Int) != (part : Int)) = true := by simp; omega
                  have hop2 : (o : Int) ≠ (part : Int) := by omega
                  rcases hown with ⟨rfl, hk1⟩ | ⟨rfl, hk1, hk2⟩ | ⟨rfl, hk1⟩
                  · go_wp2
                    go_roundw
                    case rel => first
                      | exact ⟨k + 1, part, q, l, by omega, by go_num, rfl, by simp; try omega, HBu.out.stay, HB.out, hb, hold⟩
                      | exact ⟨k + 1, by omega, by go_num, part, rfl, by simp; try omega, q, l, HBu.out.stay, HB.out, hb, hold⟩
                    case measure => simp [intOf]; omega
                  · go_wp2
                    go_roundw
                    case rel => first
                      | exact ⟨k + 1, part, q, l, by omega, by go_num, rfl, by simp; try omega, HBu.out.stay, HB.out, hb, hold⟩
                      | exact ⟨k + 1, by omega, by go_num, part, rfl, by simp; try omega, q, l, HBu.out.stay, HB.out, hb, hold⟩
                    case measure => simp [intOf]; omega
                  · go_wp2
                    go_roundw
                    case rel => first
                      | exact ⟨k + 1, part, q, l, by omega, by go_num, rfl, by simp; try omega, HBu.out.stay, HB.out, hb, hold⟩
                      | exact ⟨k + 1, by omega, by go_num, part, rfl, by simp; try omega, q, l, HBu.out.stay, HB.out, hb, hold⟩
                    case measure => simp [intOf]; omega
          · obtain rfl : k = 32 := by omega
            have hread := burst_read t cs ht hmay Z HZ.out fr part q l hBu
            have hll : l.length = m1 := by rw [hBu.len, HMM.out]
            have hR : Rd wr (some ⟨g, 0, none⟩) m1 l := (Blk.bo (n := m1) (c := c3) hB hg hll hl3 hB3.2.2.1).rd
            clear hBu hB hll
            have hcc : m1 ≤ c3 := hB3.2.1
            by_cases hp0 : part = 0
            · have he := hread.1 hp0
              subst hp0
              clear hread
              go_wp2_with fail
              refine (pkrd_any _ m1 c3 l wr hR hcc hc3 (by omega)).mono ?_
              rintro e w5 ⟨A5, n5, c5, ps5, rfl, _, _, _, hb5⟩
              rw [he]
              have t5 := hb.trans (hb5.mono hb.size)
              generalize (pkTag l : Int) = tg
              have t5' := t5.alloc t5.size (.cells #[.int .u32 tg, .slice A5 n5 c5] 43)
              go_wp2_with (go_at_call 41; refine (works10_any _).mono ?_; rintro e w6 ⟨rfl, hb6⟩)
              go_ret
              exact ⟨rfl, t5'.trans (hb6.mono t5'.size)⟩
            · have he := hread.2 hp0
              clear hread
              go_wp2_with fail
              refine (pkrd_any _ m1 c3 l wr hR hcc hc3 (by omega)).mono ?_
              rintro e w5 ⟨A5, n5, c5, ps5, rfl, _, _, _, hb5⟩
              rw [he]
              have t5 := hb.trans (hb5.mono hb.size)
              generalize (pkTag l : Int) = tg
              have t5' := t5.alloc t5.size (.cells #[.int .u32 tg, .slice A5 n5 c5] 43)
              go_wp2_with (go_at_call 41; refine (works10_any _).mono ?_; rintro e w6 ⟨rfl, hb6⟩)
              go_ret
              exact ⟨rfl, t5'.trans (hb6.mono t5'.size)⟩
      · obtain ⟨fr, rfl⟩ : ∃ fr : Nat, R = (fr : Int) := ⟨R.toNat, by omega⟩
        have hfrm : fr < 8 * m1 := by omega
        clear hr1 hr2
        go_upto_region 10 with fail
        clear hneg
        clear q3
        go_wp2_with fail
        go_loopw [6, 7, 8] (fun pt tn iv wr => ∃ (k part q : Nat) (l : List UInt8), k ≤ 32 ∧ iv = .int .i64 (k : Int) ∧ pt = .int .i64 (part : Int) ∧ tn = .bool (!decide (part = 0)) ∧ Bu Z fr k part q l ∧ Blk wr g (l ++ zs) ∧ Below w.heap.size w wr ∧ wr.heap[w.heap.size]? = some (.cells #[.int .u32 (t : Int), .slice A n c, .int .i64 i, .int .u32 (u : Int)] 76 (0, 0))) (fun _ _ iv _ => 32 - (intOf iv).toNat)
        case atStart => exact ⟨0, 0, 0, Z, by omega, rfl, rfl, rfl, Bu.new Z fr, hblk, t3, old3⟩
        case round =>
          obtain ⟨k, part, q, l, hk, rfl, rfl, rfl, hBu, hB, hb, hold⟩ := hrel
          have q4 := fun i => cell_of_row wr w.heap.size i _ 76 (0, 0) hold
          by_cases hlt : k < 32
          · have hlt' : (k : Int) < 32 := by omega
            obtain ⟨K, hK⟩ : ∃ K, K = fr + k := ⟨_, rfl⟩
            have hKI : (fr : Int) + (k : Int) = (K : Int) := by omega
            have HB := Lib.hid hB
            have HBu := Lib.hid hBu
            have HK := Lib.hid hK
            clear hB hBu
            by_cases hin : 8 * m1 ≤ K
            · have hin' : 8 * (m1 : Int) ≤ (K : Int) := by omega
              clear hK
              go_wp2
              all_goals go_roundw
              all_goals try (simp [intOf]; omega; done)
              all_goals first
                | exact ⟨k + 1, part, q, l, by omega, by go_num, rfl, by simp; try omega, HBu.out.stay, HB.out, hb, hold⟩
                | exact ⟨k + 1, by omega, by go_num, part, rfl, by simp; try omega, q, l, HBu.out.stay, HB.out, hb, hold⟩
            · have hin' : ¬ 8 * (m1 : Int) ≤ (K : Int) := by omega
              have hJm : K / 8 < m1 := by omega
              have hJi : (K : Int) / 8 < (m1 : Int) := by omega
              have h2 := HB.out.cell (k := K / 8) (by rw [List.length_append, HBu.out.len, ← HMM.out]; omega)
              have h3 := HB.out.frozen (K / 8)
              have e1 : gb (l ++ zs) (K / 8) = gb l (K / 8) := by
                unfold gb
                simp [List.getD, List.getElem?_append, show K / 8 < l.length by rw [HBu.out.len, ← HMM.out]; omega]
              rw [e1] at h2
              clear e1
              have hown : (ownOf K = 1 ∧ (K : Int) < 64) ∨ (ownOf K = 2 ∧ 64 ≤ (K : Int) ∧ (K : Int) < 96) ∨ (ownOf K = 3 ∧ 96 ≤ (K : Int)) := by
                unfold ownOf; split <;> (try split) <;> omega
              clear hK
              go_upto_region 17 with fail
              · go_roundw
                case rel => exact ⟨k + 1, by omega, by omega, part, rfl, Iff.rfl, q, l, HBu.out.stay, HB.out⟩
                case measure => simp [intOf]; omega
              · obtain ⟨o, ho⟩ : ∃ o, o = ownOf K := ⟨_, rfl⟩
                have HO := Lib.hid ho
                rw [← ho] at hown
                clear ho
                by_cases hpo : part = 0 ∨ o = part
                · have HPO := Lib.hid hpo
                  rcases hown with ⟨rfl, hk1⟩ | ⟨rfl, hk1, hk2⟩ | ⟨rfl, hk1⟩
                  all_goals rcases hpo with rfl | rfl
                  · go_wp2
                    go_roundw
                    case rel =>
                      obtain ⟨e2, e3⟩ := u8_flip (gb l (K / 8)) (K % 8) (gb_lt _ _) (by omega)
                      rw [e2]
                      have hBk := HB.out.set_ (K / 8) (gb l (K / 8) ^^^ 2 ^ (K % 8)) e3
                      rw [List.set_append_left _ _ (by rw [HBu.out.len, ← HMM.out]; omega)] at hBk
                      have hT := HBu.out.turn (by rw [← HMM.out]; omega) K HK.out (by rw [← HMM.out]; omega) (by rw [← HO.out]; exact HPO.out) (UInt8.ofNat (gb l (K / 8) ^^^ 2 ^ (K % 8))) (u8_back _ e3)
                      rw [← HO.out] at hT
                      exact ⟨k + 1, _, _, _, by omega, by go_num, rfl, rfl, hT, hBk, hb.setCell (p := ⟨g, K / 8, none⟩) (by have := t1.size; simp; omega) _, (Below.heap_setCell wr ⟨g, K / 8, none⟩ _ w.heap.size (by simp; omega)).trans hold⟩
                    case measure => simp [intOf]; omega
                  · go_wp2
                    go_roundw
                    case rel =>
                      obtain ⟨e2, e3⟩ := u8_flip (gb l (K / 8)) (K % 8) (gb_lt _ _) (by omega)
                      rw [e2]
                      have hBk := HB.out.set_ (K / 8) (gb l (K / 8) ^^^ 2 ^ (K % 8)) e3
                      rw [List.set_append_left _ _ (by rw [HBu.out.len, ← HMM.out]; omega)] at hBk
                      have hT := HBu.out.turn (by rw [← HMM.out]; omega) K HK.out (by rw [← HMM.out]; omega) (by rw [← HO.out]; exact HPO.out) (UInt8.ofNat (gb l (K / 8) ^^^ 2 ^ (K % 8))) (u8_back _ e3)
                      rw [← HO.out] at hT
                      exact ⟨k + 1, _, _, _, by omega, by go_num, rfl, rfl, hT, hBk, hb.setCell (p := ⟨g, K / 8, none⟩) (by have := t1.size; simp; omega) _, (Below.heap_setCell wr ⟨g, K / 8, none⟩ _ w.heap.size (by simp; omega)).trans hold⟩
                    case measure => simp [intOf]; omega
                  · go_wp2
                    go_roundw
                    case rel =>
                      obtain ⟨e2, e3⟩ := u8_flip (gb l (K / 8)) (K % 8) (gb_lt _ _) (by omega)
                      rw [e2]
                      have hBk := HB.out.set_ (K / 8) (gb l (K / 8) ^^^ 2 ^ (K % 8)) e3
                      rw [List.set_append_left _ _ (by rw [HBu.out.len, ← HMM.out]; omega)] at hBk
                      have hT := HBu.out.turn (by rw [← HMM.out]; omega) K HK.out (by rw [← HMM.out]; omega) (by rw [← HO.out]; exact HPO.out) (UInt8.ofNat (gb l (K / 8) ^^^ 2 ^ (K % 8))) (u8_back _ e3)
                      rw [← HO.out] at hT
                      exact ⟨k + 1, _, _, _, by omega, by go_num, rfl, rfl, hT, hBk, hb.setCell (p := ⟨g, K / 8, none⟩) (by have := t1.size; simp; omega) _, (Below.heap_setCell wr ⟨g, K / 8, none⟩ _ w.heap.size (by simp; omega)).trans hold⟩
                    case measure => simp [intOf]; omega
                  · go_wp2
                    go_roundw
                    case rel =>
                      obtain ⟨e2, e3⟩ := u8_flip (gb l (K / 8)) (K % 8) (gb_lt _ _) (by omega)
                      rw [e2]
                      have hBk := HB.out.set_ (K / 8) (gb l (K / 8) ^^^ 2 ^ (K % 8)) e3
                      rw [List.set_append_left _ _ (by rw [HBu.out.len, ← HMM.out]; omega)] at hBk
                      have hT := HBu.out.turn (by rw [← HMM.out]; omega) K HK.out (by rw [← HMM.out]; omega) (by rw [← HO.out]; exact HPO.out) (UInt8.ofNat (gb l (K / 8) ^^^ 2 ^ (K % 8))) (u8_back _ e3)
                      rw [← HO.out] at hT
                      exact ⟨k + 1, _, _, _, by omega, by go_num, rfl, rfl, hT, hBk, hb.setCell (p := ⟨g, K / 8, none⟩) (by have := t1.size; simp; omega) _, (Below.heap_setCell wr ⟨g, K / 8, none⟩ _ w.heap.size (by simp; omega)).trans hold⟩
                    case measure => simp [intOf]; omega
                  · go_wp2
                    go_roundw
                    case rel =>
                      obtain ⟨e2, e3⟩ := u8_flip (gb l (K / 8)) (K % 8) (gb_lt _ _) (by omega)
                      rw [e2]
                      have hBk := HB.out.set_ (K / 8) (gb l (K / 8) ^^^ 2 ^ (K % 8)) e3
                      rw [List.set_append_left _ _ (by rw [HBu.out.len, ← HMM.out]; omega)] at hBk
                      have hT := HBu.out.turn (by rw [← HMM.out]; omega) K HK.out (by rw [← HMM.out]; omega) (by rw [← HO.out]; exact HPO.out) (UInt8.ofNat (gb l (K / 8) ^^^ 2 ^ (K % 8))) (u8_back _ e3)
                      rw [← HO.out] at hT
                      exact ⟨k + 1, _, _, _, by omega, by go_num, rfl, rfl, hT, hBk, hb.setCell (p := ⟨g, K / 8, none⟩) (by have := t1.size; simp; omega) _, (Below.heap_setCell wr ⟨g, K / 8, none⟩ _ w.heap.size (by simp; omega)).trans hold⟩
                    case measure => simp [intOf]; omega
                  · go_wp2
                    go_roundw
                    case rel =>
                      obtain ⟨e2, e3⟩ := u8_flip (gb l (K / 8)) (K % 8) (gb_lt _ _) (by omega)
                      rw [e2]
                      have hBk := HB.out.set_ (K / 8) (gb l (K / 8) ^^^ 2 ^ (K % 8)) e3
                      rw [List.set_append_left _ _ (by rw [HBu.out.len, ← HMM.out]; omega)] at hBk
                      have hT := HBu.out.turn (by rw [← HMM.out]; omega) K HK.out (by rw [← HMM.out]; omega) (by rw [← HO.out]; exact HPO.out) (UInt8.ofNat (gb l (K / 8) ^^^ 2 ^ (K % 8))) (u8_back _ e3)
                      rw [← HO.out] at hT
                      exact ⟨k + 1, _, _, _, by omega, by go_num, rfl, rfl, hT, hBk, hb.setCell (p := ⟨g, K / 8, none⟩) (by have := t1.size; simp; omega) _, (Below.heap_setCell wr ⟨g, K / 8, none⟩ _ w.heap.size (by simp; omega)).trans hold⟩
                    case measure => simp [intOf]; omega
                · have hpz : ((part : Int) != 0) = true := by simp; omega
                  have hpz2 : (part : Int) ≠ 0 := by omega
                  have hop : ((o : Int) != (part : Int)) = true := by simp; omega
                  have hop2 : (o : Int) ≠ (part : Int) := by omega
                  rcases hown with ⟨rfl, hk1⟩ | ⟨rfl, hk1, hk2⟩ | ⟨rfl, hk1⟩
                  · go_wp2
                    go_roundw
                    case rel => first
                      | exact ⟨k + 1, part, q, l, by omega, by go_num, rfl, by simp; try omega, HBu.out.stay, HB.out, hb, hold⟩
                      | exact ⟨k + 1, by omega, by go_num, part, rfl, by simp; try omega, q, l, HBu.out.stay, HB.out, hb, hold⟩
                    case measure => simp [intOf]; omega
                  · go_wp2
                    go_roundw
                    case rel => first
                      | exact ⟨k + 1, part, q, l, by omega, by go_num, rfl, by simp; try omega, HBu.out.stay, HB.out, hb, hold⟩
                      | exact ⟨k + 1, by omega, by go_num, part, rfl, by simp; try omega, q, l, HBu.out.stay, HB.out, hb, hold⟩
                    case measure => simp [intOf]; omega
                  · go_wp2
                    go_roundw
                    case rel => first
                      | exact ⟨k + 1, part, q, l, by omega, by go_num, rfl, by simp; try omega, HBu.out.stay, HB.out, hb, hold⟩
                      | exact ⟨k + 1, by omega, by go_num, part, rfl, by simp; try omega, q, l, HBu.out.stay, HB.out, hb, hold⟩
                    case measure => simp [intOf]; omega
          · obtain rfl : k = 32 := by omega
            have hread := burst_read t cs ht hmay Z HZ.out fr part q l hBu
            have hll : l.length = m1 := by rw [hBu.len, HMM.out]
            have hR : Rd wr (some ⟨g, 0, none⟩) m1 l := (Blk.bo (n := m1) (c := c3) hB hg hll hl3 hB3.2.2.1).rd
            clear hBu hB hll
            have hcc : m1 ≤ c3 := hB3.2.1
            by_cases hp0 : part = 0
            · have he := hread.1 hp0
              subst hp0
              clear hread
              go_wp2_with fail
              refine (pkrd_any _ m1 c3 l wr hR hcc hc3 (by omega)).mono ?_
              rintro e w5 ⟨A5, n5, c5, ps5, rfl, _, _, _, hb5⟩
              rw [he]
              have t5 := hb.trans (hb5.mono hb.size)
              generalize (pkTag l : Int) = tg
              have t5' := t5.alloc t5.size (.cells #[.int .u32 tg, .slice A5 n5 c5] 43)
              go_wp2_with (go_at_call 41; refine (works10_any _).mono ?_; rintro e w6 ⟨rfl, hb6⟩)
              go_ret
              exact ⟨rfl, t5'.trans (hb6.mono t5'.size)⟩
            · have he := hread.2 hp0
              clear hread
              go_wp2_with fail
              refine (pkrd_any _ m1 c3 l wr hR hcc hc3 (by omega)).mono ?_
              rintro e w5 ⟨A5, n5, c5, ps5, rfl, _, _, _, hb5⟩
              rw [he]
              have t5 := hb.trans (hb5.mono hb.size)
              generalize (pkTag l : Int) = tg
              have t5' := t5.alloc t5.size (.cells #[.int .u32 tg, .slice A5 n5 c5] 43)
              go_wp2_with (go_at_call 41; refine (works10_any _).mono ?_; rintro e w6 ⟨rfl, hb6⟩)
              go_ret
              exact ⟨rfl, t5'.trans (hb6.mono t5'.size)⟩

set_option maxRecDepth 100000 in
theorem lifted (os : Os) (started : os.Started) (H : Type) (enc : TypeId × Value → H) :
    ReturnsInHanded {} Try.checked os 23 .any (Rows.packetBurstsSpec.pre6 enc Try.prog Try.f23 Rows.packetBurstsRow.domain false) (Rows.packetBurstsSpec.post enc Try.prog Try.f23 false true false false) := by
  refine returnsInHanded_of_change (C := Try.checked) own started (by kernel_rfl) Try.func23
    (ChangeSpec.witness6 (enc := enc) (C := Try.checked) false ⟨#[], #[.agg #[.int .u32 0, .slice none 0 0, .int .i64 0, .int .u32 0]], []⟩ 8 (by kernel_rfl) (by kernel_rfl) (by kernel_rfl) (by kernel_rfl)) ?_
  intro W base args ds gs before hval0 hW _ _
  have hval : ∀ (j : Nat) t v, Try.f23.params[j]? = some t → args[j]? = some v → Value.okWide Try.prog W .any base t v := hval0
  have hW' := hW
  obtain ⟨p, q, hA0, hV, rfl, _, _⟩ := hW
  have hA : DataW.TrodAll enc Try.prog W 0 (fun _ => true) true Try.f23.params.toList args.toList ds p := hA0
  have hA1 := hA
  rw [Try.params23] at hA hval
  obtain ⟨v0, vs0, d0, ds0, p0, q0, hargs, rfl, rfl, h0, r0⟩ := trodAll_cons hA
  obtain ⟨rfl, rfl, rfl⟩ := trodAll_nil r0
  obtain rfl : args = #[v0] := by cases args; simp_all
  obtain ⟨rfl, rfl⟩ := trodVars_none hV
  obtain ⟨g0, A0, n0, c0, cs0, i0, m0, rfl, hg0, hx0, hn0, hc0, hi0, hm0⟩ := burst_of (hval 0 76 v0 rfl rfl) h0
  clear hA0 hval0
  simp only [List.append_nil] at hW' hA1
  refine (walk g0 A0 n0 c0 cs0 i0 m0 W hg0 hx0 hn0 hc0 hi0 hm0).mono fun e W' ⟨he, bel⟩ => ?_
  subst he
  exact ⟨_, rfl, post_law (by kernel_rfl) rfl rfl (by rw [Try.params23]; intro t ht; simp at ht; subst ht; exact ⟨by kernel_rfl, of_decide_eq_true (by kernel_rfl)⟩) hW' hA1 bel⟩

theorem closed : joinedFacts Try.prog 23 Try.f23 Rows.packetBurstsSpec Rows.packetBurstsRow = true :=
  closed_of (by kernel_rfl) laidOut mapsRowed0 (by kernel_rfl) (by kernel_rfl) (by kernel_rfl) stops0 (by kernel_rfl) knobs0 (by kernel_rfl) (by kernel_rfl) (by kernel_rfl) (by kernel_rfl) (by kernel_rfl) (by kernel_rfl) (by kernel_rfl)
    (by kernel_rfl) (by kernel_rfl) (by kernel_rfl) (by kernel_rfl) (by kernel_rfl) (by kernel_rfl) (by kernel_rfl) (by kernel_rfl) heard0 enter0 final0 rfl make0 rfl rfl rfl (by kernel_rfl) (by kernel_rfl) (by kernel_rfl)
theorem named : Try.prog.funcNamed Rows.packetBurstsRow.func = some 23 := by kernel_rfl
theorem inst : Try.f23.isInstance Try.prog Rows.packetBurstsRow.origin Rows.packetBurstsRow.targs := of_decide_eq_true (by kernel_rfl)
theorem wrap : Try.f23.isWrapper Try.prog Rows.packetBurstsRow.wrapper Rows.packetBurstsRow.mainSum := by
  unfold Func.isWrapper
  rw [if_neg (by decide +kernel)]
  exact ⟨rfl, rfl⟩
theorem over : Rows.packetBurstsRow.holds Try.pinned (OpenSpec.ofChange Rows.packetBurstsSpec) :=
  OpenClaim.holds_of_wide 23 Try.f23 rfl rfl rfl rfl rfl rfl rfl ⟨rfl, rfl, rfl, rfl, rfl⟩ rfl rfl rfl rfl rfl named Try.func23 closed inst wrap
    (fun os started H enc _ => lifted os started H enc)

/-- The statement. -/
theorem proved : Rows.PacketBurstsSaid := over
#print axioms proved
end Go.Proofs.Ythndlhflkbidiaa.packetBursts
