/- Pad, Kept; the anchor of layer 1. -/
import Derived.Test.YthndlhflkbidiaaCuts
namespace Go.Proofs.Ythndlhflkbidiaa
open Go.RowKit

theorem below_drewN {B : Nat} {a w : World} (h : Below B a w) (n : Nat) : Below B a (w.drewN n) := ⟨h.os, h.tape, h.output, h.size, h.block⟩

/-- A slice's length, for a measure. -/
def lenV : Value → Nat | .slice _ m _ => m | _ => 0

def padded (xs : List UInt8) : List UInt8 := xs ++ List.replicate (up xs.length - xs.length) 0
theorem padded_length (xs : List UInt8) : (padded xs).length = up xs.length := by
  have := up_le xs.length
  simp [padded]; omega

theorem pad_any (A : Option Addr) (n c : Nat) (xs : List UInt8) (w : World) (hx : Rd w A n xs) (hn : n ≤ 140737488350000) :
    Calls Try.prog 37 #[.slice A n c] w (Fresh w (up n) (padded xs)) := by
  have hu := up_le n
  obtain ⟨d, hd⟩ : ∃ d : Nat, (up n : Int) - n = (d : Int) ∧ up n = n + d := ⟨up n - n, by omega, by omega⟩
  have HD := Lib.hid hd
  have hd4 : d < 4 := by omega
  have HP := Lib.hid (show padded xs = xs ++ List.replicate d 0 by unfold padded; rw [hx.len]; congr 2; omega)
  clear hd
  go_enter Try.func37, Try.ntmps37
  go_wp2_with (first
    | (go_at_call 66; refine (clone_any _ _ _ _ _ hx (by omega)).mono ?_; rintro e w1 ⟨A1, c1, rfl, hB1, hb1⟩)
    | (go_at_call 39; refine (round_any _ _ (by omega)).mono ?_; rintro e w' ⟨rfl, rfl⟩)
    | (at_builtin; refine wpList_noughts R22 (kn := .i64) Try.underlying3 _ rfl (.tmp 4) (.tmp 10) rfl w.heap.size rfl (by rw [← HD.out.1]; rfl) hB1 (by omega) hb1.size ?_; intro A2 c2 w2 hB2 hg2 hor2))
  go_ret
  have hb2 := below_grown hB1 hg2 hb1.size
  rw [HP.out, HD.out.2]
  exact ⟨A2, c2, rfl, hB2, hb1.trans hb2⟩

theorem padR_any (A : Option Addr) (n c : Nat) (xs : List UInt8) (w : World) (hx : Rd w A n xs) (hn : n ≤ 140737488350000) :
    Calls Try.prog 38 #[.slice A n c] w (Fresh w (up n) (padded xs)) := by
  have hu := up_le n
  have HL := Lib.hid hx.len
  go_enter Try.func38, Try.ntmps38
  go_wp2_with (go_at_call 62; refine (copy_any _ _ _ _ _ hx (by omega)).mono ?_; rintro e w1 ⟨A1, c1, rfl, hB1, hb1⟩)
  go_loopw [3] (fun v wr => ∃ k A2 c2, n + k ≤ up n ∧ v = .slice A2 (n + k) c2 ∧ Bo wr w.heap.size A2 (n + k) c2 (xs ++ List.replicate k 0) ∧ Below w.heap.size w wr) (fun v _ => up n - lenV v)
  case atStart => exact ⟨0, A1, c1, by omega, rfl, by simpa using hB1, hb1⟩
  case round =>
    obtain ⟨k, A2, c2, hk, rfl, hB, hb⟩ := hrel
    by_cases hlt : n + k < up n
    · have hlt' : (n : Int) + (k : Int) < (up n : Int) := by omega
      have hsz := hb.size
      go_wp2_with (first
        | (go_at_call 68; refine (roundR_any _ _ (by omega)).mono ?_; rintro e w' ⟨rfl, rfl⟩)
        | (at_builtin; refine wpList_bytes R22 _ rfl (.tmp 12) (.tmp 13) rfl w.heap.size rfl rfl (hB.alloc _) (rd_one _ 0 (by omega) (by omega)) (by omega) (by simp; omega) ?_; intro A3 c3 w3 hB3 hg3 hor3))
      go_roundw
      case rel =>
        have hb3 := below_grown (hB.alloc _) hg3 (by simp; omega)
        refine ⟨k + 1, A3, c3, by omega, rfl, ?_, (hb.alloc hsz _).trans hb3⟩
        rw [List.replicate_succ', ← List.append_assoc]
        exact hB3
      case measure => simp [lenV]; omega
    · have e : n + k = up n := by omega
      have hlt' : ¬ (n : Int) + (k : Int) < (up n : Int) := by omega
      have HE := Lib.hid e
      clear e hlt
      go_wp2_with (go_at_call 68; refine (roundR_any _ _ (by omega)).mono ?_; rintro e w' ⟨rfl, rfl⟩)
      go_ret
      have hk' : up xs.length - xs.length = k := by rw [HL.out]; have := HE.out; omega
      refine ⟨A2, c2, by rw [← HE.out]; rfl, ?_, hb⟩
      unfold padded
      rw [hk', ← HE.out]
      exact hB

/-- A row that Roomy made, looked at again. -/
theorem kept_any (g n : Nat) (B : Option Addr) (d : Nat) (xs : List UInt8) (w : World) (hg : Blk w g (xs ++ marks)) (hx : Rd w B n xs) (hn : n ≤ 140737488350000) :
    Calls Try.prog 30 #[.slice (some ⟨g, 0, none⟩) n (n + 16), .slice B n d] w fun e w' => e = .returned (.bool true) ∧ ∃ k, w' = w.drewN k := by
  have hin : Rd w (some ⟨g, 0, none⟩) n xs := (Blk.bo (base := 0) hg (by omega) hx.len rfl (by simp [marks, maxLen]; omega)).rd
  have hT : eqB xs xs = true := by simp [eqB]
  have HT := Lib.hid hT
  have HL := Lib.hid hx.len
  clear hT
  go_enter Try.func30, Try.ntmps30
  go_wp2_with (go_at_call 32; refine (eq_any _ _ _ _ _ _ xs xs _ hin hx (by omega)).mono ?_; rintro e w' ⟨rfl, kq, rfl⟩; rw [HT.out])
  go_loop [6] (fun i => ∃ k : Nat, k ≤ 16 ∧ i = .int .i64 k) (fun i => 16 - (intOf i).toNat)
  case atStart => exact ⟨0, by omega, rfl⟩
  case round =>
    obtain ⟨k, hk, rfl⟩ := hrel
    by_cases hlt : k < 16
    · have hlt' : (k : Int) < 16 := by omega
      have hc := hg.cell (k := n + k) (by simp [marks, HL.out]; omega)
      have hm : gb (xs ++ marks) (n + k) = 90 := by
        rw [gb_get _ _ (by simp [marks, HL.out]; omega), List.getElem_append_right (by rw [HL.out]; omega)]
        unfold marks
        rw [List.getElem_replicate]; rfl
      rw [hm] at hc
      clear hm
      go_wp2
      go_round
      case rel => exact ⟨k + 1, by omega, by go_num⟩
      case measure => simp [intOf]; omega
    · obtain rfl : k = 16 := by omega
      go_wp2
      go_ret
      exact ⟨rfl, _, rfl⟩

theorem works01_any (w : World) : Calls Try.prog 26 #[] w fun e w' => e = .returned (.bool true) ∧ Below w.heap.size w w' := by
  have e1 : [UInt8.ofNat (255 : Int).toNat] ++ nb 258 2 = [255, 1, 2] := by decide
  have e2 : be (List.take 2 (List.drop 1 [255, 1, 2])) = 258 := by decide
  have e3 : List.take 1 (List.drop 1 ([255, 1, 2] : List UInt8)) = [1] := by decide
  have E1 := Lib.hid e1
  have E2 := Lib.hid e2
  have E3 := Lib.hid e3
  clear e1 e2 e3
  go_enter Try.func26, Try.ntmps26
  go_wp2_with fail
  refine (put_at _ _ _ _ 258 2 258 2 _ rfl rfl (rd_one w 255 (by omega) (by omega)) (by decide) (by omega)).mono ?_
  rintro e w1 ⟨A1, c1, rfl, hB1, hb1⟩
  rw [E1.out] at hB1
  have hs1 := hb1.size
  simp at hs1
  have hb1' : Below w.heap.size w w1 := ((Below.refl _ _).alloc (Nat.le_refl _) _).trans (hb1.mono (by simp))
  go_wp2_with fail
  refine (get_yes _ _ _ _ 1 2 _ hB1.rd (by decide) (by omega) (by omega)).mono ?_
  rintro e w' ⟨rfl, rfl⟩
  rw [E2.out]
  go_wp2_with fail
  refine (cut_yes _ _ _ _ 1 1 _ hB1.rd (by omega) hB1.2.1 (by have := hB1.2.2.1; unfold maxLen at this; omega) (by omega)).mono ?_
  rintro e w2 ⟨A2, c2, rfl, hB2, hb2⟩
  rw [E3.out] at hB2
  obtain ⟨b, off, rfl, hc⟩ := hB2.rd.at_ (k := 0) (by omega)
  have hg : gb [1] 0 = 1 := by decide
  rw [hg, Nat.add_zero] at hc
  clear hg
  go_wp2_with fail
  refine (round_any 5 _ (by omega)).mono ?_
  rintro e w' ⟨rfl, rfl⟩
  go_wp2_with fail
  refine (pad_any _ _ _ _ _ (hB1.below (hb2.mono (Nat.le_refl _))).rd (by omega)).mono ?_
  rintro e w3 ⟨A3, c3, rfl, hB3, hb3⟩
  go_wp2
  go_ret
  exact ⟨by simp [up], hb1'.trans ((hb2.mono (by omega)).trans (hb3.mono (by have := hb2.size; omega)))⟩
end Go.Proofs.Ythndlhflkbidiaa
