/- The document's Write: the bytes of a packet. -/
import Derived.Test.YthndlhflkbidiaaPkWr
import Derived.Deep.RegionHeld3
namespace Go.Proofs.Ythndlhflkbidiaa
open Go.RowKit

theorem laid10_any (t s : Nat) (A : Option Addr) (n c : Nat) (cs : List Ck) (w : World) (ht : t < 4294967296) (hs : s < 4294967296) (hx : Cks w A n cs) (hn : n ≤ 250000) (hsm : ∀ c ∈ cs, small c = true) :
    Calls Try.prog 75 #[.agg #[.int .u32 (t : Int), .slice A n c], .int .u32 (s : Int)] w (Fresh w (12 + (flat cs).length) (laidB t s cs)) := by
  have HL := Lib.hid hx.len
  have HSM := Lib.hid hsm
  clear hsm
  have t0 : Below w.heap.size w (w.alloc (.cells #[.int .u32 (t : Int), .slice A n c] 43)) := (Below.refl _ _).alloc (Nat.le_refl _) _
  go_enter Try.func75, Try.ntmps75
  go_wp2_with fail
  refine (putR_at none 0 0 [] _ _ 5000 2 _ rfl rfl (Rd.nil _ _) (by decide) (by omega)).mono ?_
  rintro e w2 ⟨A2, c2, rfl, hB2, hb2⟩
  have old2 := stays (heap_alloc_new w _) hb2
  have t2 := t0.trans (hb2.mono t0.size)
  go_wp2_with fail
  refine (putR_at A2 _ c2 _ _ _ 5000 2 _ rfl rfl hB2.rd (by decide) (by omega)).mono ?_
  rintro e w3 ⟨A3, c3, rfl, hB3, hb3⟩
  have old3 := stays old2 hb3
  have t3 := t2.trans (hb3.mono t2.size)
  have q3 := fun i => cell_of_row w3 w.heap.size i _ 43 (0, 0) old3
  go_wp2_with fail
  refine (putR_at A3 _ c3 _ _ _ t 4 _ rfl rfl hB3.rd (by decide) (by omega)).mono ?_
  rintro e w4 ⟨A4, c4, rfl, hB4, hb4⟩
  have old4 := stays old3 hb4
  have t4 := t3.trans (hb4.mono t3.size)
  go_wp2_with fail
  refine (putR_at A4 _ c4 _ _ _ s 4 _ rfl rfl hB4.rd (by decide) (by omega)).mono ?_
  rintro e w5 ⟨A5, c5, rfl, hB5, hb5⟩
  have old5 := stays old4 hb5
  have t5 := t4.trans (hb5.mono t4.size)
  have hB : Bo w5 w.heap.size A5 12 c5 (headB t s) := (show Bo w5 w4.heap.size A5 12 c5 (headB t s) from hB5).mono t4.size
  clear q3 hB2 hB3 hB4 hB5
  clear hb2 hb3 hb4 hb5 old2 old3 old4 t2 t3 t4
  go_wp2
  go_loopw [5, 6] (fun v i wr => ∃ (k : Nat) (Ab : Option Addr) (nb cb : Nat), k ≤ n ∧ i = .int .i64 k ∧ v = .slice Ab nb cb ∧ nb ≤ 12 + 65540 * k ∧ Bo wr w.heap.size Ab nb cb (headB t s ++ flat (cs.take k)) ∧ Below w.heap.size w wr ∧ wr.heap[w.heap.size]? = some (.cells #[.int .u32 (t : Int), .slice A n c] 43 (0, 0))) (fun _ i _ => n - (intOf i).toNat)
  case atStart => exact ⟨0, A5, 12, c5, by omega, rfl, rfl, by omega, by simpa [flat] using hB, t5, old5⟩
  case round =>
    clear hB t5 old5
    obtain ⟨k, Ab, m, cb, hk, rfl, rfl, hm, hB, hb, old⟩ := hrel
    have q0 := fun i => cell_of_row wr w.heap.size i _ 43 (0, 0) old
    by_cases hlt : k < n
    · have hkl : k < cs.length := by rw [HL.out]; exact hlt
      have hlt' : (k : Int) < n := by omega
      obtain ⟨g, off, rfl, A1, n1, c1, k0, k1, k2, hr1, hn1, hc1⟩ := (hx.below hb).form hlt
      have hsm : n1 ≤ 65531 := by
        have := HSM.out (cs[k]'hkl) (List.getElem_mem _)
        rw [← hr1.len]
        simpa [small] using this
      have HF := Lib.hid (flat_take hkl)
      have hwn := wrN_le n1
      have hsz := hb.size
      go_wp2_with fail
      refine (ckwR_all (cs[k]'hkl).k.toNat (cs[k]'hkl).f.toNat A1 n1 c1 (cs[k]'hkl).xs _ (UInt8.toNat_lt _) (UInt8.toNat_lt _) hr1).mono ?_
      rintro e w2 ⟨A2, c2, rfl, hB2, hb2⟩
      have hs2 := hb2.size
      have hB' := hB.below hb2
      have old2 := stays old hb2
      go_wp2_with (at_builtin; refine wpList_bytes R22 _ rfl (.tmp 26) (.tmp 32) rfl w.heap.size rfl rfl hB' hB2.rd (by omega) (by omega) ?_; intro A3 c3 w3 hB3 hg3 hor3)
      have hb3 := below_grown hB' hg3 (by omega)
      have old3 : w3.heap[w.heap.size]? = some (.cells #[.int .u32 (t : Int), .slice (some ⟨g, off, none⟩) n c] 43 (0, 0)) := (hg3.block _ (lt_of_heap old2) (fun e => by
        obtain ⟨g0, ys0, e0, _, _, hBk0⟩ := hB'.blk (by
          unfold wrote at e
          split at e
          · cases e
          · omega)
        have h1 := (hB'.wrote_place e.symm).1
        unfold wrote at e
        split at e
        · cases e
        · rw [e0] at e
          simp at e
          subst e
          have := hBk0.symm.trans old2
          simp at this)).trans old2
      clear hg3 hor3
      go_roundw
      case rel =>
        refine ⟨k + 1, A3, m + wrN n1, c3, by omega, by go_num, rfl, by omega, ?_, (hb.trans (hb2.mono hb.size)).trans hb3, old3⟩
        rw [HF.out, ← List.append_assoc]
        exact hB3
      case measure => simp [intOf]; omega
    · obtain rfl : n = k := by omega
      have hfl : headB t s ++ flat (cs.take n) = laidB t s cs := by rw [List.take_of_length_le (by rw [HL.out]; omega)]; rfl
      rw [hfl] at hB
      have hlen := hB.len
      rw [laid_length] at hlen
      have HN := Lib.hid hlen
      clear hfl hlen hlt hk
      go_wp2
      go_ret
      refine ⟨Ab, cb, by rw [HN.out]; rfl, by rw [HN.out]; exact hB, hb⟩

theorem laid10_zero (t : Nat) (A : Option Addr) (n c : Nat) (cs : List Ck) (w : World) (ht : t < 4294967296) (hx : Cks w A n cs) (hn : n ≤ 250000) (hsm : ∀ c ∈ cs, small c = true) :
    Calls Try.prog 75 #[.agg #[.int .u32 (t : Int), .slice A n c], .int .u32 0] w (Fresh w (12 + (flat cs).length) (laidB t 0 cs)) := laid10_any t 0 A n c cs w ht (by decide) hx hn hsm
theorem write10R_no (t : Int) (A : Option Addr) (n c : Nat) (cs : List Ck) (w : World) (hx : Cks w A n cs) (hn : n ≤ 9223372036854775807) (h : mayB cs = false) :
    Calls Try.prog 56 #[.agg #[.int .u32 t, .slice A n c]] w (Fresh w 0 []) := by
  have HM := Lib.hid h
  clear h
  go_enter Try.func56, Try.ntmps56
  go_wp2_with (go_at_call 72; refine (may10R_any A n c cs _ (hx.alloc _) hn).mono ?_; rintro e w1 ⟨rfl, rfl⟩; rw [HM.out])
  go_ret
  exact ⟨none, 0, rfl, Bo.nil _ _ _, (Below.refl _ _).alloc (Nat.le_refl _) _⟩

set_option maxHeartbeats 1000000 in
theorem write10R_yes (t : Nat) (A : Option Addr) (n c : Nat) (cs : List Ck) (w : World) (ht : t < 4294967296) (hx : Cks w A n cs) (hn : n ≤ 250000) (h : mayB cs = true) :
    Calls Try.prog 56 #[.agg #[.int .u32 (t : Int), .slice A n c]] w (Fresh w (12 + (flat cs).length) (laidB t (crcS (laidB t 0 cs)) cs)) := by
  have HM := Lib.hid h
  have hsm := mayB_small h
  have HSM := Lib.hid hsm
  clear h hsm
  obtain ⟨S, hS⟩ : ∃ S, S = crcS (laidB t 0 cs) := ⟨_, rfl⟩
  have hSl : S < 4294967296 := by rw [hS]; exact crcE_lt _ _
  rw [← hS]
  have HS := Lib.hid hS
  clear hS
  have t0 : Below w.heap.size w (w.alloc (.cells #[.int .u32 (t : Int), .slice A n c] 43)) := (Below.refl _ _).alloc (Nat.le_refl _) _
  have hx0 : Cks (w.alloc (.cells #[.int .u32 (t : Int), .slice A n c] 43)).drew A n cs := hx.alloc _
  have n0 : (w.alloc (.cells #[.int .u32 (t : Int), .slice A n c] 43)).drew.heap[w.heap.size]? = some (.cells #[.int .u32 (t : Int), .slice A n c] 43 (0, 0)) := heap_alloc_new w _
  go_enter Try.func56, Try.ntmps56
  go_upto_region 3 with (go_at_call 72; refine (may10R_any A n c cs _ (hx.alloc _) (by omega)).mono ?_; rintro e w1 ⟨rfl, rfl⟩; rw [HM.out])
  go_cut [2] (fun x wx => ∃ A2 c2, x = .slice A2 (12 + (flat cs).length) c2 ∧ Bo wx w.heap.size A2 (12 + (flat cs).length) c2 (laidB t S cs) ∧ Below w.heap.size w wx)
  case first =>
    go_region_held3 (fun w' => w'.cell? ⟨w.heap.size, 0, none⟩ = some (.int .u32 (t : Int)) ∧ w'.cell? ⟨w.heap.size, 1, none⟩ = some (.slice A n c))
      (first | go_keep | (go_show; fail))
      (first
        | (go_at_call 75; (with_reducible refine (laid10_zero t A n c cs _ ht hx0 hn HSM.out).mono ?_); rintro e w2 ⟨A2, c2, rfl, hB2, hb2⟩; have n2 := stays n0 hb2; have q2 := fun i => cell_of_row w2 w.heap.size i _ 43 (0, 0) n2; have t2 := t0.drew.trans (hb2.mono (by simp)); have hl2 : 12 + (flat cs).length ≤ 9223372036854775807 := (by have := hB2.2.1; have := hB2.2.2.1; unfold maxLen at this; omega))
        | (go_at_call 76; refine (sumR_any _ _ _ (laidB t 0 cs) w2 hB2.rd hl2).mono ?_; rintro e w3 ⟨rfl, rfl⟩; rw [← HS.out])
        | (go_at_call 75; (with_reducible refine (laid10_any t S A n c cs w2 ht hSl (hx.below t2) hn HSM.out).mono ?_); rintro e w4 ⟨A4, c4, rfl, hB4, hb4⟩; have n4 := stays n2 hb4; have q4 := fun i => cell_of_row w4 w.heap.size i _ 43 (0, 0) n4))
    all_goals (
      go_wp2_with fail
      go_meet
      exact ⟨A4, c4, rfl, hB4.mono t2.size, t2.trans (hb4.mono t2.size)⟩)
  case rest =>
    obtain ⟨A2, c2, rfl, hB2, hb2⟩ := hcut
    go_wp2
    go_ret
    exact ⟨A2, c2, rfl, hB2, hb2⟩
theorem write10R_any (t : Nat) (A : Option Addr) (n c : Nat) (cs : List Ck) (w : World) (ht : t < 4294967296) (hx : Cks w A n cs) (hn : n ≤ 250000) :
    Calls Try.prog 56 #[.agg #[.int .u32 (t : Int), .slice A n c]] w (Fresh w (pkB t cs).length (pkB t cs)) := by
  by_cases h : mayB cs = true
  · rw [pkB_laid h, laid_length]
    exact write10R_yes t A n c cs w ht hx hn h
  · rw [pkB_nil (by simpa using h)]
    exact write10R_no t A n c cs w hx (by omega) (by simpa using h)
end Go.Proofs.Ythndlhflkbidiaa
