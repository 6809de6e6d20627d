/- The document's Read of a packet, for any bytes. -/
import Derived.Test.YthndlhflkbidiaaRdRI
import Derived.Test.YthndlhflkbidiaaChkA
import Derived.IntWalk
namespace Go.Proofs.Ythndlhflkbidiaa
open Go Go.RowKit

set_option maxRecDepth 100000 in
set_option maxHeartbeats 4000000 in
theorem rd60_main (A : Option Addr) (N C : Nat) (b : List UInt8) (w : World) (hx : Rd w A N b) (hNC : N ≤ C) (hC : C ≤ 9223372036854775807) (hN : N ≤ 1000000) (h12 : 12 ≤ N) :
    Calls Try.prog 60 #[.slice A N C] w (PkOutR w b) := by
  have h' : ¬ (N : Int) < 12 := by omega
  have HL := Lib.hid hx.len
  have HN4 := Lib.hid (show nul4.length = 4 from rfl)
  have H12 := Lib.hid (show 12 ≤ b.length by rw [HL.out]; exact h12)
  have t0 : Below w.heap.size w (w.alloc (.cells #[.int .u32 0, .slice none 0 0] 43)) := (Below.refl _ _).alloc (Nat.le_refl _) _
  have n0 := heap_alloc_new w (.cells #[.int .u32 0, .slice none 0 0] 43)
  obtain ⟨S, hS⟩ : ∃ S, S = be ((b.drop 8).take 4) := ⟨_, rfl⟩
  obtain ⟨T, hT⟩ : ∃ T, T = be ((b.drop 4).take 4) := ⟨_, rfl⟩
  obtain ⟨Q, hQ⟩ : ∃ Q, Q = pkS b := ⟨_, rfl⟩
  have hSl : S < 4294967296 := by rw [hS]; exact be4_lt _ (by simp [HL.out]; omega)
  have hTl : T < 4294967296 := by rw [hT]; exact be4_lt _ (by simp [HL.out]; omega)
  have hQl : Q < 4294967296 := by rw [hQ]; exact pkS_lt b
  have HS := Lib.hid hS
  have HT := Lib.hid hT
  have HQ := Lib.hid hQ
  clear hS hT hQ
  go_enter Try.func60, Try.ntmps60
  go_wp2_with fail
  refine (getR_yes A N C b 8 4 _ (hx.below t0) (by decide) (by omega) hNC hC (by omega)).mono ?_
  rintro e w1 ⟨rfl, hb1⟩
  rw [← HS.out]
  have r1 := stays n0 hb1
  have t1 := t0.trans (hb1.mono t0.size)
  go_wp2_with fail
  refine (copy_any A N C b _ (hx.below t1) (by omega)).mono ?_
  rintro e w2 ⟨A2, c2, rfl, hB2, hb2⟩
  obtain ⟨g, zs, rfl, hbg, hl2, hblk⟩ := hB2.blk (by have := hB2.2.1; omega)
  have hm2 := hB2.2.2.1
  have r2 := stays r1 hb2
  have t2 := t1.trans (hb2.mono t1.size)
  have hgr : w.heap.size < g := Nat.lt_of_lt_of_le (lt_of_heap r1) hbg
  clear hB2 hb1 hb2 hbg n0 r1 t1 t0
  go_wp2_with fail
  go_loopw [7] (fun i wr => SdRel w 8 g b zs nul4 i wr ∧ wr.heap[w.heap.size]? = some (.cells #[.int .u32 0, .slice none 0 0] 43 (0, 0))) (fun i _ => 12 - (intOf i).toNat)
  case atStart => exact ⟨⟨0, by omega, rfl, by simpa [ov_nil] using hblk, t2⟩, r2⟩
  case round =>
    clear hblk t2 r2
    obtain ⟨⟨k, hk, rfl, hB, hb⟩, r2⟩ := hrel
    rw [HN4.out] at hk
    by_cases hlt4 : k < 4
    · have hlt' : (8 : Int) + (k : Int) < 12 := by omega
      have hkn : (8 : Int) + (k : Int) < (N : Int) := by omega
      have hle : 8 + (nul4.take k).length ≤ b.length := by rw [HL.out, List.length_take, HN4.out]; omega
      have h2 := hB.cell (k := 8 + k) (by rw [List.length_append, ov_length hle, HL.out]; omega)
      have h3 := hB.frozen (8 + k)
      have HB := Lib.hid hB
      have R2 := Lib.hid r2
      clear hB hle r2
      go_wp2
      go_roundw
      case rel =>
        have hB := HB.out.set_ (8 + k) (gb nul4 k) (gb_lt _ _)
        rw [ov_step (by rw [HL.out, HN4.out]; omega) (by rw [HN4.out]; exact hlt4)] at hB
        have e0 : gb nul4 k = 0 := by
          unfold gb nul4
          rcases (show k = 0 ∨ k = 1 ∨ k = 2 ∨ k = 3 by omega) with rfl | rfl | rfl | rfl <;> rfl
        rw [e0] at hB
        exact ⟨⟨k + 1, by rw [HN4.out]; omega, by go_num, hB, hb.setCell (p := ⟨g, 8 + k, none⟩) (Nat.le_of_lt hgr) _⟩, (Below.heap_setCell _ ⟨g, 8 + k, none⟩ _ _ (Nat.ne_of_lt hgr)).trans R2.out⟩
      case measure => simp [intOf]; omega
    · obtain rfl : k = 4 := by omega
      rw [List.take_of_length_le (by rw [HN4.out]; omega)] at hB
      have hle : 8 + nul4.length ≤ b.length := by rw [HL.out, HN4.out]; omega
      have hOL := ov_length hle
      rw [HL.out] at hOL
      obtain ⟨b2, hb2e⟩ : ∃ x, x = ov b 8 nul4 := ⟨_, rfl⟩
      have HSQ := Lib.hid (show crcS b2 = Q by rw [hb2e, ov_sum, HQ.out])
      rw [← hb2e] at hB hOL
      have HOL := Lib.hid hOL
      have hR : Rd wr (some ⟨g, 0, none⟩) N b2 := (Blk.bo (base := 0) (n := N) (c := c2) hB (by omega) HOL.out hl2 hm2).rd
      obtain ⟨wo, rfl⟩ : ∃ wo : World, wo = wr := ⟨_, rfl⟩
      clear hb2e hOL hle hlt4 hk hB
      by_cases hq : Q = S
      · subst hq
        have HH2 := Lib.hid (show be ((b.drop 8).take 4) = pkS b by rw [← HS.out, HQ.out])
        go_wp2_with fail
        refine (sumR_any _ N c2 b2 wo hR (by omega)).mono ?_
        rintro e w3 ⟨rfl, rfl⟩
        rw [HSQ.out]
        go_wp2_with fail
        refine (getR_yes A N C b 4 4 _ (hx.below hb) (by decide) (by omega) hNC hC (by omega)).mono ?_
        rintro e w4 ⟨rfl, hb4⟩
        rw [← HT.out]
        have r4 := stays r2 hb4
        have t4 := hb.trans (hb4.mono hb.size)
        have hI0 := RrI.first (T := T) t4 r4
        clear hb4 r4 hR hb r2 t4
        go_wp2_with fail
        go_loopw [11] (fun i wr => ∃ (k : Nat) (v : Value) (ps : List Cp), i = .int .i64 k ∧ Upto b k (ps.map (·.c)) ∧ 4 * ps.length + 12 ≤ k ∧ RrI w wr w4.heap.size T v ps) (fun i _ => N - (intOf i).toNat)
        case atStart => exact ⟨12, _, [], rfl, Upto.first H12.out, by simp, hI0⟩
        case round =>
          clear hI0
          obtain ⟨k, v, ps, rfl, hU, h4k, hI⟩ := hrel
          have hk : k ≤ N := by have := hU.1; rw [HL.out] at this; exact this
          obtain ⟨Av, cv, rfl, hvc, hvm⟩ := hI.own.form
          have HU := Lib.hid hU
          have HI := Lib.hid hI
          have hb := hI.below
          have hx1 := hx.below hb
          have q0 := fun i => cell_of_row wr w.heap.size i _ 43 (0, 0) hI.r0
          have f0 := fun i => frozen_of_row wr w.heap.size i _ 43 hI.r0
          have p0 := fun i => cell_of_row wr w4.heap.size i _ 43 (0, 0) hI.pb
          clear hI hU
          by_cases hlt : k < N
          · have hlt' : (k : Int) < N := by omega
            have hkc : ¬ C = k := by omega
            have hkC : (k : Int) ≤ C := by omega
            obtain ⟨bb, off, rfl, _⟩ := hx1.form (by omega)
            have hcut := hx1.cut (k := k) (m := N - k) (by omega) hNC (some ⟨bb, off + k, none⟩) (by rw [if_neg hkc]; simp only [Option.map_some]; unfold Addr.add; split <;> simp_all)
            rw [List.take_of_length_le (by rw [List.length_drop, HL.out]; omega)] at hcut
            obtain ⟨d, hd⟩ : ∃ d, d = b.drop k := ⟨_, rfl⟩
            rw [← hd] at hcut
            have HD := Lib.hid hd
            clear hd
            go_wp2_with fail
            refine (rdR_any _ (N - k) (C - k) d wr hcut (by omega) (by omega) (by omega)).mono ?_
            rintro e w5 h5
            unfold RdOut at h5
            by_cases hok : ckOk d = true
            · rw [if_pos hok] at h5
              unfold RdGood at h5
              obtain ⟨A5, c5, rfl, hB5, hb5⟩ := h5
              have HOK := Lib.hid hok
              have hst := HU.out.step (by rw [← HD.out]; exact hok)
              rw [← HD.out, HL.out] at hst
              have h4u := hst.2.2
              have huN := hst.2.1
              have HST := Lib.hid hst.1
              have hbl : (ckOf d).xs.length = ckLen d - 4 := by
                have := (written_read hok).2.2.2.2
                have := up_le (ckLen d)
                simp [ckOf]
                omega
              have HBL := Lib.hid hbl
              have hckl := ckLen_lt d
              clear hst hbl hok
              obtain ⟨L, hLe⟩ : ∃ L, L = ckLen d := ⟨_, rfl⟩
              rw [← hLe] at h4u huN hB5 hckl
              rw [← hLe]
              have HLE := Lib.hid hLe
              have t5 := hb.trans (hb5.mono hb.size)
              have n5 := stays HI.out.pb hb5
              have n6 := (Below.heap_alloc w5 (.cells #[.int .u8 (gb d 0 : Int), .int .u8 (gb d 1 : Int), .slice A5 (L - 4) c5] 45) _ (lt_of_heap n5)).trans n5
              have q5 := fun i => cell_of_row (w5.alloc (.cells #[.int .u8 (gb d 0 : Int), .int .u8 (gb d 1 : Int), .slice A5 (L - 4) c5] 45)) w4.heap.size i _ 43 (0, 0) n6
              have hrow := heap_alloc_new (w5.alloc (.cells #[.int .u8 (gb d 0 : Int), .int .u8 (gb d 1 : Int), .slice A5 (L - 4) c5] 45)) (.cells #[.int .u8 (gb d 0 : Int), .int .u8 (gb d 1 : Int), .slice A5 (L - 4) c5] 45)
              rw [World.size_alloc] at hrow
              have news := cells_ck (ck := ckOf d) (B := A5) (d := c5) (m := L - 4) (by rw [HBL.out, HLE.out]) hrow
              have b6 := (hb5.alloc hb5.size (.cells #[.int .u8 (gb d 0 : Int), .int .u8 (gb d 1 : Int), .slice A5 (L - 4) c5] 45)).alloc (by have := hb5.size; simp; omega) (.cells #[.int .u8 (gb d 0 : Int), .int .u8 (gb d 1 : Int), .slice A5 (L - 4) c5] 45)
              have hown5 := ((HI.out.own.below hb5).alloc (.cells #[.int .u8 (gb d 0 : Int), .int .u8 (gb d 1 : Int), .slice A5 (L - 4) c5] 45)).alloc (.cells #[.int .u8 (gb d 0 : Int), .int .u8 (gb d 1 : Int), .slice A5 (L - 4) c5] 45)
              have hs6 : w4.heap.size + 1 ≤ ((w5.alloc (.cells #[.int .u8 (gb d 0 : Int), .int .u8 (gb d 1 : Int), .slice A5 (L - 4) c5] 45)).alloc (.cells #[.int .u8 (gb d 0 : Int), .int .u8 (gb d 1 : Int), .slice A5 (L - 4) c5] 45)).heap.size := by have := lt_of_heap n5; simp; omega
              have hp : Bo ((w5.alloc (.cells #[.int .u8 (gb d 0 : Int), .int .u8 (gb d 1 : Int), .slice A5 (L - 4) c5] 45)).alloc (.cells #[.int .u8 (gb d 0 : Int), .int .u8 (gb d 1 : Int), .slice A5 (L - 4) c5] 45)) w.heap.size A5 (ckOf d).xs.length c5 (ckOf d).xs := by
                have e := HLE.out
                subst e
                rw [HBL.out]
                exact ((hB5.alloc _).alloc _).mono hb.size
              have hu1 : IntKind.i64.wrap ((k : Int) + (up L : Int)) = ((k + up L : Nat) : Int) := by rw [IntWalk.i64_in _ (by omega)]; simp
              clear hLe q0 f0 p0 hcut n6 hrow hB5 n5 hx1
              go_wp2_with (at_builtin; refine wpList_chunks _ rfl (.tmp 64) (.tmp 66) rfl (w4.heap.size + 1) _ ps [⟨ckOf d, A5, c5⟩] rfl hown5 ⟨w5.heap.size + 1, 0, none⟩ 1 1 rfl rfl news (by omega) hs6 ?_; intro A6 c6 w6 hown6 hg6; have hst := HI.out.step b6 hp hown6 hg6; have HST6 := Lib.hid hst; have n7 := (HI.out.pb4 b6 hg6).1; have q7 := fun i => cell_of_row w6 w4.heap.size i _ 43 (0, 0) n7; have f7 := fun i => frozen_of_row w6 w4.heap.size i _ 43 n7; clear hst hg6 hown6 n7)
              go_roundw
              case rel =>
                refine ⟨k + up L, _, ps ++ [⟨ckOf d, A5, c5⟩], by go_num, ?_, by simp; omega, HST6.out⟩
                rw [List.map_append, HLE.out]
                exact HST.out
              case measure => simp [intOf]; omega
            · rw [if_neg hok] at h5
              obtain ⟨rfl, hb5⟩ := h5
              have r5 := stays HI.out.r0 hb5
              have r6 := (Below.heap_alloc w5 (.cells #[.int .u8 0, .int .u8 0, .slice none 0 0] 45) _ (lt_of_heap r5)).trans r5
              have q5 := fun i => cell_of_row (w5.alloc (.cells #[.int .u8 0, .int .u8 0, .slice none 0 0] 45)) w.heap.size i _ 43 (0, 0) r6
              have f5 := fun i => frozen_of_row (w5.alloc (.cells #[.int .u8 0, .int .u8 0, .slice none 0 0] 45)) w.heap.size i _ 43 r6
              have HO := Lib.hid (out60 (a := .int .u32 0) (b := .slice none 0 0) r6)
              have HE := Lib.hid (pkErr_none (b := b) (by rw [HL.out]; omega) HH2.out (HU.out.bad (by rw [HL.out]; exact hlt) (by rw [← HD.out]; simpa using hok)))
              have t5 := hb.trans (hb5.mono hb.size)
              have t6 := t5.alloc t5.size (.cells #[.int .u8 0, .int .u8 0, .slice none 0 0] 45)
              clear r5 r6 hok hcut hx1 q0 f0 p0
              go_wp2
              refine bodyPost_ret (v := .tuple #[.agg #[.int .u32 0, .slice none 0 0], .int .i64 7]) (by rw [res60 (g := w.heap.size) rfl HO.out]; rfl) rfl (PkOutR.bad HE.out (by omega) ⟨rfl, ?_⟩)
              exact (t6.setCell (p := ⟨w.heap.size, 0, none⟩) (by simp) _).setCell (p := ⟨w.heap.size, 1, none⟩) (by simp) _
          · obtain rfl : N = k := by omega
            have HDONE := Lib.hid (show Upto b b.length (ps.map (·.c)) by rw [HL.out]; exact HU.out).done
            have hck := (HI.out.own.cks HI.out.bod.ok).2
            have hpl : ps.length ≤ 250000 := by omega
            have hpl' : ps.length ≤ cv := hvc
            obtain ⟨cs, hcs⟩ : ∃ x, x = ps.map (·.c) := ⟨_, rfl⟩
            obtain ⟨mv, hm⟩ : ∃ m, m = mayB cs := ⟨_, rfl⟩
            rw [← hcs] at hck
            have HCS := Lib.hid hcs
            have HM := Lib.hid hm
            have HLAST := Lib.hid (fun ev (he : ev = eqB (laidB T Q cs) b) => pkErr_last (b := b) (cs := cs) H12.out HH2.out (by rw [HCS.out]; exact HDONE.out) mv ev HM.out (by rw [← HT.out, ← HS.out]; exact he))
            clear hm hcs hlt
            cases mv
            · have HE := Lib.hid (show pkErr b = 7 by rw [HLAST.out _ rfl, if_neg (by simp)])
              have HO := Lib.hid (out60 (a := .int .u32 0) (b := .slice none 0 0) HI.out.r0)
              go_wp2_with fail
              refine (may10R_any Av _ cv cs _ hck (by omega)).mono ?_
              rintro e w5 ⟨rfl, rfl⟩
              rw [← HM.out]
              go_wp2
              refine bodyPost_ret (v := .tuple #[.agg #[.int .u32 0, .slice none 0 0], .int .i64 7]) (by rw [res60 (g := w.heap.size) rfl HO.out]; rfl) rfl (PkOutR.bad HE.out (by omega) ⟨rfl, ?_⟩)
              exact (hb.setCell (p := ⟨w.heap.size, 0, none⟩) (by simp) _).setCell (p := ⟨w.heap.size, 1, none⟩) (by simp) _
            · have HSM := Lib.hid (mayB_small HM.out.symm)
              go_wp2_with fail
              refine (may10R_any Av _ cv cs _ hck (by omega)).mono ?_
              rintro e w5 ⟨rfl, rfl⟩
              rw [← HM.out]
              go_wp2_with fail
              refine (laid10_any T Q Av _ cv cs _ hTl hQl hck (by omega) HSM.out).mono ?_
              rintro e w6 ⟨A6, c6, rfl, hB6, hb6⟩
              have t6 := hb.trans (hb6.mono hb.size)
              have hn6 : 12 + (flat cs).length ≤ 9223372036854775807 := by have := hB6.2.1; have := hB6.2.2.1; unfold maxLen at this; omega
              have r6 := stays HI.out.r0 hb6
              have p6 := stays HI.out.pb hb6
              clear q0 f0 p0 hck
              go_wp2_with fail
              refine (eq_any A6 A _ N c6 C (laidB T Q cs) b _ hB6.rd (hx.below t6) hn6).mono ?_
              rintro e w7 ⟨rfl, k7, rfl⟩
              obtain ⟨ev, hev⟩ : ∃ x, x = eqB (laidB T Q cs) b := ⟨_, rfl⟩
              rw [← hev]
              have HEV := Lib.hid hev
              have q7 := fun i => cell_of_row (w6.drewN k7) w.heap.size i _ 43 (0, 0) r6
              have f7 := fun i => frozen_of_row (w6.drewN k7) w.heap.size i _ 43 r6
              have p7 := fun i => cell_of_row (w6.drewN k7) w4.heap.size i _ 43 (0, 0) p6
              have t7 := below_drewN t6 k7
              have r7 : (w6.drewN k7).heap[w.heap.size]? = some (.cells #[.int .u32 0, .slice none 0 0] 43 (0, 0)) := r6
              have R7 := Lib.hid r7
              clear hev hB6 r7 r6 p6
              cases ev
              · have HE := Lib.hid (show pkErr b = 7 by rw [HLAST.out _ HEV.out, if_neg (by simp)])
                have HO := Lib.hid (out60 (a := .int .u32 0) (b := .slice none 0 0) R7.out)
                go_wp2
                refine bodyPost_ret (v := .tuple #[.agg #[.int .u32 0, .slice none 0 0], .int .i64 7]) (by rw [res60 (g := w.heap.size) rfl HO.out]; rfl) rfl (PkOutR.bad HE.out (by omega) ⟨rfl, ?_⟩)
                exact (t7.setCell (p := ⟨w.heap.size, 0, none⟩) (by simp) _).setCell (p := ⟨w.heap.size, 1, none⟩) (by simp) _
              · have HE := Lib.hid (show pkErr b = 0 by rw [HLAST.out _ HEV.out]; simp)
                have HO := Lib.hid (out60 (a := .int .u32 (T : Int)) (b := .slice Av ps.length cv) R7.out)
                have HG := Lib.hid (pkCks_good HE.out HDONE.out)
                go_wp2
                have kk : KC (fun k => k = w.heap.size) wr (((w6.drewN k7).setCell ⟨w.heap.size, 0, none⟩ (.int .u32 (T : Int))).setCell ⟨w.heap.size, 1, none⟩ (.slice Av ps.length cv)) :=
                  (((KC.of_below hb6).trans (show KC (fun k => k = w.heap.size) w6 (w6.drewN k7) from ⟨Nat.le_refl _, fun _ _ _ _ h _ => h⟩)).trans (KC.setCell (w6.drewN k7) ⟨w.heap.size, 0, none⟩ (.int .u32 (T : Int)))).trans (KC.setCell _ ⟨w.heap.size, 1, none⟩ _)
                have hE : ∀ g cs t, wr.heap[g]? = some (.cells cs t (0, 0)) → t ≠ 43 → ¬ g = w.heap.size := by
                  rintro g cs t hg h4 rfl
                  have h0 := HI.out.r0
                  rw [h0] at hg
                  simp at hg
                  exact h4 hg.2.symm
                have ho := HI.out.own.kc kk (fun g cs hg => hE g cs _ hg (by decide))
                have hbd := HI.out.bod.kc kk (fun g cs hg => hE g cs _ hg (by decide))
                have hck := (ho.cks hbd.ok).2
                refine bodyPost_ret (v := .tuple #[.agg #[.int .u32 (T : Int), .slice Av ps.length cv], .int .i64 0]) (by rw [res60 (g := w.heap.size) rfl HO.out]; rfl) rfl ⟨Av, ps.length, cv, ?_, ?_, hvc, by unfold maxLen at hvm; omega, ?_⟩
                · rw [HE.out, HG.out.2, ← HT.out]; rfl
                · rw [HG.out.1]; exact hck
                · exact (t7.setCell (p := ⟨w.heap.size, 0, none⟩) (by simp) _).setCell (p := ⟨w.heap.size, 1, none⟩) (by simp) _
      · have hne : ((Q : Int) != (S : Int)) = true := by simp; omega
        have q0 := fun i => cell_of_row wo w.heap.size i _ 43 (0, 0) r2
        have f0 := fun i => frozen_of_row wo w.heap.size i _ 43 r2
        have HO := Lib.hid (out60 (a := .int .u32 0) (b := .slice none 0 0) r2)
        have HE := Lib.hid (pkErr_sum (b := b) (by rw [HL.out]; omega) (by rw [← HS.out, ← HQ.out]; omega))
        clear r2 hq
        go_wp2_with fail
        refine (sumR_any _ N c2 b2 wo hR (by omega)).mono ?_
        rintro e w3 ⟨rfl, rfl⟩
        rw [HSQ.out]
        go_wp2
        refine bodyPost_ret (v := .tuple #[.agg #[.int .u32 0, .slice none 0 0], .int .i64 8]) (by rw [res60 (g := w.heap.size) rfl HO.out]; rfl) rfl (PkOutR.bad HE.out (by omega) ⟨rfl, ?_⟩)
        exact (hb.setCell (p := ⟨w.heap.size, 0, none⟩) (by simp) _).setCell (p := ⟨w.heap.size, 1, none⟩) (by simp) _

/-- The document's Read, for any bytes. -/
theorem rd60_any (A : Option Addr) (N C : Nat) (b : List UInt8) (w : World) (hx : Rd w A N b) (hNC : N ≤ C) (hC : C ≤ 9223372036854775807) (hN : N ≤ 1000000) :
    Calls Try.prog 60 #[.slice A N C] w (PkOutR w b) := by
  by_cases h12 : 12 ≤ N
  · exact rd60_main A N C b w hx hNC hC hN h12
  · exact (rd60_short A N C w (by omega)).mono fun e w' h => PkOutR.bad (pkErr_short (by rw [hx.len]; omega)) (by omega) h
end Go.Proofs.Ythndlhflkbidiaa
