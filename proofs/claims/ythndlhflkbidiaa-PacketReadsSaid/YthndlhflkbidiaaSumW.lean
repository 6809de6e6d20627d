/- What stands in a packet's bytes as its sum; are two rows alike (slices.Equal). -/
import Derived.Test.YthndlhflkbidiaaPkW
import Derived.Test.YthndlhflkbidiaaCrcW
import Derived.Deep.DeepCutAuto
import Derived.Deep.RegionWith
namespace Go.Proofs.Ythndlhflkbidiaa
open Go.RowKit

theorem pkS_eq (b : List UInt8) : crcE (crcE (crcE 0 (b.take 8)) nul4) (b.drop 12) = pkS b := by
  unfold pkS crcS
  rw [crcE_append, crcE_append, List.append_assoc]
theorem rd_nul4 (w : World) : Rd (w.alloc (.cells (bs (List.replicate 4 0)).toArray 5)) (some ⟨w.heap.size, 0, none⟩) 4 nul4 := by
  have h := Blk.new w (List.replicate 4 0)
  exact (Blk.bo (xs := List.replicate 4 0) (ys := []) (base := 0) (n := 4) (c := 4) (by simpa using h) (by omega) rfl rfl (by unfold maxLen; omega)).rd

theorem sum10_any (A : Option Addr) (N C : Nat) (b : List UInt8) (w : World) (hx : Rd w A N b) (h12 : 12 ≤ N) (hNC : N ≤ C) (hC : C ≤ 9223372036854775807) (hN : N ≤ 140737488350000) :
    Calls Try.prog 73 #[.slice A N C] w (Fresh w 4 (nb (pkS b) 4)) := by
  have hmk := fun W => run_make_bytes R22 4 4 rfl (by omega) W
  have HS := Lib.hid (pkS_eq b)
  have h8 : (8 : Int) ≤ (C : Int) := by omega
  have hlt := pkS_lt b
  have h12' : (12 : Int) ≤ (N : Int) := by omega
  have hx8 := hx.take (m := 8) (by omega)
  have HC := Lib.hid (show ∀ W, Below w.heap.size w W → ∀ B, (B = if C = 12 then A else A.map (·.add 12)) → Rd W B (N - 12) (b.drop 12) from fun W hb B hB => by
     have hc := (hx.below hb).cut (k := 12) (m := N - 12) (by omega) hNC B hB
     rwa [List.take_of_length_le (by rw [List.length_drop, hx.len]; omega)] at hc)
  go_enter Try.func73, Try.ntmps73
  go_upto_region 1 with fail
  go_cut [3] (fun x wx => x = .int .u32 (crcE (crcE 0 (b.take 8)) nul4 : Int) ∧ Below w.heap.size w wx)
  case first =>
    go_region_with (first
      | (go_at_call 82; refine (sum_any _ _ _ (b.take 8) _ (by first | exact hx8 | exact hx8.alloc _) (by omega)).mono ?_; rintro e w' ⟨rfl, rfl⟩)
      | (go_at_call 81; refine (extend_any _ _ _ _ nul4 _ (by exact rd_nul4 _) (crcE_lt _ _) (by omega)).mono ?_; rintro e w' ⟨rfl, rfl⟩))
    all_goals (go_wp2_with fail; go_meet; exact ⟨rfl, ((Below.refl _ _).alloc (Nat.le_refl _) _).drew⟩)
  case rest =>
    obtain ⟨rfl, t0⟩ := hcut
    clear hmk
    have h12c : (12 : Int) ≤ (C : Int) := by omega
    by_cases h : C = 12
    · go_wp2_with fail
      refine (extend_any _ _ _ _ (b.drop 12) _ (HC.out _ t0 _ (by simp [h])) (crcE_lt _ _) (by omega)).mono ?_
      rintro e w' ⟨rfl, rfl⟩
      rw [HS.out]
      go_wp2_with fail
      refine (put_at none 0 0 [] _ 4 (pkS b) 4 _ rfl rfl (Rd.nil _ _) (by decide) (by omega)).mono ?_
      rintro e w2 ⟨A2, c2, rfl, hB2, hb2⟩
      go_wp2
      go_ret
      exact ⟨A2, c2, rfl, (by simpa using hB2 : Bo w2 wc.heap.size A2 4 c2 (nb (pkS b) 4)).mono t0.size, t0.trans (hb2.mono t0.size)⟩
    · go_wp2_with fail
      refine (extend_any _ _ _ _ (b.drop 12) _ (HC.out _ t0 _ (by simp [h, Addr.add])) (crcE_lt _ _) (by omega)).mono ?_
      rintro e w' ⟨rfl, rfl⟩
      rw [HS.out]
      go_wp2_with fail
      refine (put_at none 0 0 [] _ 4 (pkS b) 4 _ rfl rfl (Rd.nil _ _) (by decide) (by omega)).mono ?_
      rintro e w2 ⟨A2, c2, rfl, hB2, hb2⟩
      go_wp2
      go_ret
      exact ⟨A2, c2, rfl, (by simpa using hB2 : Bo w2 wc.heap.size A2 4 c2 (nb (pkS b) 4)).mono t0.size, t0.trans (hb2.mono t0.size)⟩
end Go.Proofs.Ythndlhflkbidiaa
