/- packet.Write: the bytes of a packet. -/
import Derived.Test.YthndlhflkbidiaaMayW
import Derived.Test.YthndlhflkbidiaaSumW
import Derived.Laws.CopyOwn
import Derived.Deep.RegionLaw
import Derived.Deep.DeepCutAuto
namespace Go.Proofs.Ythndlhflkbidiaa
open Go.RowKit

theorem splice_mid {α : Type} (X M Y Z : List α) (k : Nat) (hk : X.length = k) (h : M.length = Y.length) : splice (X ++ (M ++ Z)) k Y = X ++ (Y ++ Z) := by
  subst hk
  unfold splice
  rw [List.take_left, List.drop_append, List.drop_of_length_le (by omega), Nat.add_sub_cancel_left, ← h, List.drop_left]
  rfl
theorem splice_sum (t S : Nat) (cs : List Ck) (ys : List UInt8) : splice (bs (laidB t 0 cs ++ ys)) 8 (bs (nb S 4)) = bs (laidB t S cs ++ ys) := by
  have hl : (nb port 2 ++ nb port 2 ++ nb t 4).length = 8 := by simp [nb_length]
  have e : laidB t 0 cs ++ ys = (nb port 2 ++ nb port 2 ++ nb t 4) ++ (nb 0 4 ++ (flat cs ++ ys)) := by simp [laidB, headB]
  have e2 : laidB t S cs ++ ys = (nb port 2 ++ nb port 2 ++ nb t 4) ++ (nb S 4 ++ (flat cs ++ ys)) := by simp [laidB, headB]
  generalize nb port 2 ++ nb port 2 ++ nb t 4 = X at *
  rw [e, e2, bs_append X, bs_append (nb 0 4), bs_append X, bs_append (nb S 4)]
  exact splice_mid (bs X) (bs (nb 0 4)) (bs (nb S 4)) (bs (flat cs ++ ys)) 8 (by rw [bs_length, hl]) (by rw [bs_length, bs_length, nb_length, nb_length])
theorem size5 : (Try.prog.info? 5).map (·.size) = some 1 := by kernel_rfl

theorem write10_no (t : Int) (A : Option Addr) (n c : Nat) (cs : List Ck) (w : World) (hx : Cks w A n cs) (hn : n ≤ 9223372036854775807) (h : mayB cs = false) :
    Calls Try.prog 46 #[.agg #[.int .u32 t, .slice A n c]] w (Fresh w 0 []) := by
  have HM := Lib.hid h
  clear h
  go_enter Try.func46, Try.ntmps46
  go_wp2_with (go_at_call 69; refine (may_any A n c cs _ (hx.alloc _) hn).mono ?_; rintro e w1 ⟨rfl, hb⟩; rw [HM.out])
  go_ret
  exact ⟨none, 0, rfl, Bo.nil _ _ _, ((Below.refl _ _).alloc (Nat.le_refl _) _).trans (hb.mono (by simp))⟩

theorem write10_yes (t : Nat) (A : Option Addr) (n c : Nat) (cs : List Ck) (w : World) (ht : t < 4294967296) (hx : Cks w A n cs) (hn : n ≤ 250000) (h : mayB cs = true) :
    Calls Try.prog 46 #[.agg #[.int .u32 (t : Int), .slice A n c]] w (Fresh w (12 + (flat cs).length) (laidB t (crcS (laidB t 0 cs)) cs)) := by
  have HM := Lib.hid h
  have HL := Lib.hid hx.len
  have HSM := Lib.hid (mayB_small h)
  clear h
  go_enter Try.func46, Try.ntmps46
  go_wp2_with fail
  refine (may_any A n c cs _ (hx.alloc _) (by omega)).mono ?_
  rintro e w1 ⟨rfl, hb1⟩
  rw [HM.out]
  have old1 := stays (heap_alloc_new w _) hb1
  have t1 : Below w.heap.size w w1 := ((Below.refl _ _).alloc (Nat.le_refl _) _).trans (hb1.mono (by simp))
  go_wp2_with fail
  refine (put_at none 0 0 [] _ _ 5000 2 _ rfl rfl (Rd.nil _ _) (by decide) (by omega)).mono ?_
  rintro e w2 ⟨A2, c2, rfl, hB2, hb2⟩
  have old2 := stays old1 hb2
  have t2 := t1.trans (hb2.mono t1.size)
  go_wp2_with fail
  refine (put_at A2 _ c2 _ _ _ 5000 2 _ rfl rfl hB2.rd (by decide) (by omega)).mono ?_
  rintro e w3 ⟨A3, c3, rfl, hB3, hb3⟩
  have old3 := stays old2 hb3
  have t3 := t2.trans (hb3.mono t2.size)
  have q3 := fun i => cell_of_row w3 w.heap.size i _ 43 (0, 0) old3
  go_wp2_with fail
  refine (put_at A3 _ c3 _ _ _ t 4 _ rfl rfl hB3.rd (by decide) (by omega)).mono ?_
  rintro e w4 ⟨A4, c4, rfl, hB4, hb4⟩
  have old4 := stays old3 hb4
  have t4 := t3.trans (hb4.mono t3.size)
  go_wp2_with fail
  refine (put_at A4 _ c4 _ _ _ 0 4 _ rfl rfl hB4.rd (by decide) (by omega)).mono ?_
  rintro e w5 ⟨A5, c5, rfl, hB5, hb5⟩
  have old5 := stays old4 hb5
  have t5 := t4.trans (hb5.mono t4.size)
  have hB : Bo w5 w.heap.size A5 12 c5 (headB t 0) := (show Bo w5 w4.heap.size A5 12 c5 (headB t 0) from hB5).mono t4.size
  clear q3 hB2 hB3 hB4 hB5
  have q5 := fun i => cell_of_row w5 w.heap.size i _ 43 (0, 0) old5
  clear hb1 hb2 hb3 hb4 hb5 old1 old2 old3 old4 t1 t2 t3 t4
  go_wp2
  clear q5
  go_loopw [3, 21] (fun v i wr => ∃ (k : Nat) (Ab : Option Addr) (nb cb : Nat), k ≤ n ∧ i = .int .i64 k ∧ v = .slice Ab nb cb ∧ nb ≤ 12 + 65540 * k ∧ Bo wr w.heap.size Ab nb cb (headB t 0 ++ flat (cs.take k)) ∧ Below w.heap.size w wr) (fun _ i _ => n - (intOf i).toNat)
  case atStart => exact ⟨0, A5, 12, c5, by omega, rfl, rfl, by omega, by simpa [flat] using hB, t5⟩
  case round =>
    clear hB t5 old5
    obtain ⟨k, Ab, m, cb, hk, rfl, rfl, hm, hB, hb⟩ := hrel
    by_cases hlt : k < n
    · have hkl : k < cs.length := by rw [HL.out]; exact hlt
      have hlt' : (k : Int) < n := by omega
      obtain ⟨g, off, rfl, A1, n1, c1, k0, k1, k2, hr1, hn1, hc1⟩ := (hx.below hb).form hlt
      have hsm : n1 ≤ 65531 := by
        have := HSM.out (cs[k]'hkl) (List.getElem_mem _)
        rw [← hr1.len]
        simpa [small] using this
      have HF := Lib.hid (flat_take hkl)
      have hwn := wrN_le n1
      have hsz := hb.size
      go_wp2_with fail
      refine (ckw_all (cs[k]'hkl).k.toNat (cs[k]'hkl).f.toNat A1 n1 c1 (cs[k]'hkl).xs _ (UInt8.toNat_lt _) (UInt8.toNat_lt _) (hr1.alloc _)).mono ?_
      rintro e w2 ⟨A2, c2, rfl, hB2, hb2⟩
      have hs2 := hb2.size
      simp only [World.size_alloc] at hs2
      have hB' := (hB.alloc _).below hb2
      go_wp2_with (at_builtin; refine wpList_bytes R22 _ rfl (.tmp 25) (.tmp 27) rfl w.heap.size rfl rfl hB' hB2.rd (by omega) (by omega) ?_; intro A3 c3 w3 hB3 hg3 hor3)
      have hb3 := below_grown hB' hg3 (by omega)
      clear hg3 hor3
      go_roundw
      case rel =>
        refine ⟨k + 1, A3, m + wrN n1, c3, by omega, by go_num, rfl, by omega, ?_, (((hb.alloc hsz _).trans (hb2.mono (by simp; omega))).trans hb3)⟩
        rw [HF.out, ← List.append_assoc]
        exact hB3
      case measure => simp [intOf]; omega
    · obtain rfl : n = k := by omega
      have hfl : headB t 0 ++ flat (cs.take n) = laidB t 0 cs := by rw [List.take_of_length_le (by rw [HL.out]; omega)]; rfl
      rw [hfl] at hB
      have hlen := hB.len
      rw [laid_length] at hlen
      have HN := Lib.hid hlen
      have hS := laid_pkS t 0 cs
      have HS := Lib.hid hS
      have h12 : 12 ≤ m := by omega
      obtain ⟨g, ys, rfl, hbg, hl, hBk⟩ := hB.blk (by have := hB.2.1; omega)
      have hmc := hB.2.1
      have hcm : cb ≤ 9223372036854775807 := by have := hB.2.2.1; unfold maxLen at this; omega
      have h8 : (8 : Int) ≤ (m : Int) := by omega
      have h8c : ¬ cb = 8 := by omega
      clear hfl hlen hS hlt hk
      go_upto_region 10 with fail
      have hxB := hB.rd
      have t0 := hb.drew
      go_cut [3] (fun x wx => x = .slice (some ⟨g, 0, none⟩) m cb ∧ Bo wx w.heap.size (some ⟨g, 0, none⟩) m cb (laidB t (crcS (laidB t 0 cs)) cs) ∧ Below w.heap.size w wx)
      case first =>
        go_region_law (first
          | (refine step_copy_splice rfl (.tmp 31) (.tmp 33) 22 22 rfl 5 Try.underlying22 size5 _ _ (m - 8) (cb - 8) 4 _ rfl rfl g 8 (bs (laidB t 0 cs ++ ys)) 5 (Blk.after (w := wr.drew) hBk hb2) (bs (nb (crcS (laidB t 0 cs)) 4)) (by rw [bs_length, nb_length]; exact (Nat.min_eq_left (by omega)).symm) (fun _ => ⟨rfl, _, rfl, hB2.rd.cells rfl⟩) (by rw [bs_length, bs_length, nb_length, List.length_append, laid_length]; omega) (bs_oneCell _) w.heap.size w (t0.trans (hb2.mono t0.size)) hbg ?_; intro w3 H3 hb3)
          | (go_simp; go_at_call 73; refine (sum10_any _ _ _ _ _ (by exact hxB) h12 hmc hcm (by omega)).mono ?_; rw [HS.out]; rintro e w2 ⟨A2, c2, rfl, hB2, hb2⟩; obtain ⟨g2, ys2, rfl, _⟩ := hB2.blk (by have := hB2.2.1; omega)))
        all_goals (
          go_wp2_with fail
          go_meet
          have h3 := H3.out
          rw [splice_sum] at h3
          exact ⟨rfl, Blk.bo (xs := laidB t (crcS (laidB t 0 cs)) cs) (ys := ys) h3 hbg (by rw [laid_length]; exact HN.out) hl hB.2.2.1, hb3⟩)
      case rest =>
        obtain ⟨rfl, hB3, hb3⟩ := hcut
        go_wp2
        go_ret
        rw [← HN.out] at hB3
        exact ⟨_, _, by rw [HN.out]; rfl, hB3, hb3⟩

/-- The bytes of any packet, in new memory; none, if its chunks may not stand in one. -/
theorem write10_any (t : Nat) (A : Option Addr) (n c : Nat) (cs : List Ck) (w : World) (ht : t < 4294967296) (hx : Cks w A n cs) (hn : n ≤ 250000) :
    Calls Try.prog 46 #[.agg #[.int .u32 (t : Int), .slice A n c]] w (Fresh w (pkB t cs).length (pkB t cs)) := by
  by_cases h : mayB cs = true
  · rw [pkB_laid h, laid_length]
    exact write10_yes t A n c cs w ht hx hn h
  · rw [pkB_nil (by simpa using h)]
    exact write10_no t A n c cs w hx (by omega) (by simpa using h)
end Go.Proofs.Ythndlhflkbidiaa
