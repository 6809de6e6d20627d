/- packet's summed: any twelve bytes or more, copied, with their own sum laid in. -/
import Derived.Test.YthndlhflkbidiaaPkMore
import Derived.Test.YthndlhflkbidiaaCkSet
import Derived.Test.YthndlhflkbidiaaCrcW
import Derived.Test.YthndlhflkbidiaaNumsP
namespace Go.Proofs.Ythndlhflkbidiaa
open Go.RowKit

/-- So many bytes laid over those that stand from a place on. -/
def ov (b : List UInt8) (off : Nat) (ys : List UInt8) : List UInt8 := b.take off ++ (ys ++ b.drop (off + ys.length))
theorem ov_nil (b : List UInt8) (off : Nat) : ov b off [] = b := by simp [ov]
theorem ov_length {b : List UInt8} {off : Nat} {ys : List UInt8} (h : off + ys.length ≤ b.length) : (ov b off ys).length = b.length := by simp [ov]; omega
theorem ov_step {b : List UInt8} {off k : Nat} {ys : List UInt8} (h : off + ys.length ≤ b.length) (hk : k < ys.length) (z : List UInt8) :
    (ov b off (ys.take k) ++ z).set (off + k) (UInt8.ofNat (gb ys k)) = ov b off (ys.take (k + 1)) ++ z := by
  unfold ov
  rw [take_succ' ys k hk]
  simp only [List.length_append, List.length_take, Nat.min_eq_left (Nat.le_of_lt hk), List.length_singleton]
  rw [List.drop_eq_getElem_cons (show off + k < b.length by omega)]
  rw [List.append_assoc, List.set_append_right _ _ (by rw [List.length_take]; omega), List.length_take, Nat.min_eq_left (by omega), Nat.add_sub_cancel_left]
  rw [List.append_assoc, List.set_append_right _ _ (by rw [List.length_take]; omega), List.length_take, Nat.min_eq_left (by omega), Nat.sub_self]
  simp [Nat.add_assoc]
theorem ov_ov {b : List UInt8} {off : Nat} {ys zs : List UInt8} (h : off + ys.length ≤ b.length) (e : ys.length = zs.length) : ov (ov b off ys) off zs = ov b off zs := by
  unfold ov
  rw [List.take_append_of_le_length (by rw [List.length_take]; omega), List.take_take, Nat.min_self]
  congr 2
  rw [List.drop_append, List.length_take, Nat.min_eq_left (by omega), List.drop_of_length_le (by rw [List.length_take]; omega), List.nil_append, Nat.add_sub_cancel_left, ← e, List.drop_append, Nat.sub_self, List.drop_of_length_le (Nat.le_refl _)]
  rfl
/-- The bytes with their own sum at 8 .. 11. -/
def sumdB (b : List UInt8) : List UInt8 := ov b 8 (nb (pkS b) 4)
theorem ov_sum (b : List UInt8) : crcS (ov b 8 nul4) = pkS b := by
  unfold ov pkS
  rw [List.append_assoc]
  rfl

def SdRel (w : World) (s g : Nat) (b zs ys : List UInt8) (i : Value) (wr : World) : Prop :=
  ∃ k : Nat, k ≤ ys.length ∧ i = .int .i64 ((s + k : Nat) : Int) ∧ Blk wr g (ov b 8 (ys.take k) ++ zs) ∧ Below w.heap.size w wr

set_option maxHeartbeats 1600000 in
theorem summed_any (A : Option Addr) (n c : Nat) (b : List UInt8) (w : World) (hx : Rd w A n b) (h12 : 12 ≤ n) (hn : n ≤ 1000000) :
    Calls Try.prog 61 #[.slice A n c] w (Fresh w n (sumdB b)) := by
  have HL := Lib.hid hx.len
  have hlt := pkS_lt b
  go_enter Try.func61, Try.ntmps61
  go_wp2_with fail
  refine (copy_any A n c b w hx (by omega)).mono ?_
  rintro e w1 ⟨A1, c1, rfl, hB1, hb1⟩
  obtain ⟨g, zs, rfl, hbg, hl1, hblk⟩ := hB1.blk (by have := hB1.2.1; omega)
  have hm1 := hB1.2.2.1
  clear hB1
  have HN := Lib.hid (show nul4.length = 4 from rfl)
  go_wp2_with fail
  go_loopw [4] (fun i wr => SdRel w 8 g b zs nul4 i wr) (fun i _ => 12 - (intOf i).toNat)
  case atStart => exact ⟨0, by omega, rfl, by simpa [ov_nil] using hblk, hb1⟩
  case round =>
    obtain ⟨k, hk, rfl, hB, hb⟩ := hrel
    rw [HN.out] at hk
    by_cases hlt4 : k < 4
    · have hlt' : (8 : Int) + (k : Int) < 12 := by omega
      have hkn : (8 : Int) + (k : Int) < (n : Int) := by omega
      have hle : 8 + (nul4.take k).length ≤ b.length := by rw [HL.out, List.length_take, HN.out]; omega
      have h2 := hB.cell (k := 8 + k) (by rw [List.length_append, ov_length hle, HL.out]; omega)
      have h3 := hB.frozen (8 + k)
      have HB := Lib.hid hB
      clear hB hle
      go_wp2
      go_roundw
      case rel =>
        have hB := HB.out.set_ (8 + k) (gb nul4 k) (gb_lt _ _)
        rw [ov_step (by rw [HL.out, HN.out]; omega) (by rw [HN.out]; exact hlt4)] at hB
        have e0 : gb nul4 k = 0 := by
          unfold gb nul4
          rcases (show k = 0 ∨ k = 1 ∨ k = 2 ∨ k = 3 by omega) with rfl | rfl | rfl | rfl <;> rfl
        rw [e0] at hB
        exact ⟨k + 1, by rw [HN.out]; omega, by go_num, hB, hb.setCell (p := ⟨g, 8 + k, none⟩) hbg _⟩
      case measure => simp [intOf]; omega
    · obtain rfl : k = 4 := by omega
      rw [List.take_of_length_le (by rw [HN.out]; omega)] at hB
      have hle : 8 + nul4.length ≤ b.length := by rw [HL.out, HN.out]; omega
      have hOL := ov_length hle
      rw [HL.out] at hOL
      obtain ⟨b2, hb2e⟩ : ∃ x, x = ov b 8 nul4 := ⟨_, rfl⟩
      have hS : crcS b2 = pkS b := by rw [hb2e, ov_sum]
      have hO : ov b2 8 (nb (pkS b) 4) = sumdB b := by rw [hb2e]; exact ov_ov hle (by rw [nb_length]; rfl)
      rw [← hb2e] at hB hOL
      have HS := Lib.hid hS
      have HO := Lib.hid hO
      have HOL := Lib.hid hOL
      clear hb2e hS hO hOL hle hlt4 hk
      have hR : Rd wr (some ⟨g, 0, none⟩) n b2 := (Blk.bo (n := n) (c := c1) hB hbg HOL.out hl1 hm1).rd
      go_wp2_with fail
      refine (sumR_any _ n c1 b2 wr hR (by omega)).mono ?_
      rintro e w3 ⟨rfl, rfl⟩
      rw [HS.out]
      go_wp2_with fail
      refine (putR_at none 0 0 [] _ 4 (pkS b) 4 _ rfl rfl (Rd.nil _ _) (by decide) (by omega)).mono ?_
      rintro e w4 ⟨A4, c4, rfl, hB4, hb4⟩
      have hB4' : Bo w4 wr.heap.size A4 4 c4 (nb (pkS b) 4) := by simpa using hB4
      obtain ⟨g4, zs4, rfl, hbg4, hl4, hblk4⟩ := hB4'.blk (by have := hB4.2.1; omega)
      clear hB4 hB4'
      have hBg := hB.after hb4
      have hgl := hB.lt
      have t4 := hb.trans (hb4.mono hb.size)
      obtain ⟨sv, hsv⟩ : ∃ x, x = nb (pkS b) 4 := ⟨_, rfl⟩
      have hsl : sv.length = 4 := by rw [hsv, nb_length]
      rw [← hsv] at hblk4
      have HSV := Lib.hid hsv
      have HSL := Lib.hid hsl
      clear hsv hsl hB hR
      go_wp2_with fail
      go_loopw [6] (fun i wr => SdRel w 0 g b2 zs sv i wr ∧ Blk wr g4 (sv ++ zs4)) (fun i _ => 4 - (intOf i).toNat)
      case atStart => exact ⟨⟨0, by omega, rfl, by simpa [ov_nil] using hBg, t4⟩, hblk4⟩
      case round =>
        obtain ⟨⟨k, hk, rfl, hB, hb⟩, hB4⟩ := hrel
        rw [HSL.out] at hk
        simp only [Nat.zero_add]
        by_cases hlt4 : k < 4
        · have hlt' : (k : Int) < 4 := by omega
          have hkn : (8 : Int) + (k : Int) < (n : Int) := by omega
          have hle : 8 + (sv.take k).length ≤ b2.length := by rw [HOL.out, List.length_take, HSL.out]; omega
          have h2 := hB.cell (k := 8 + k) (by rw [List.length_append, ov_length hle, HOL.out]; omega)
          have h3 := hB.frozen (8 + k)
          have h1 := hB4.cell (k := k) (by rw [List.length_append, HSL.out]; omega)
          have e1 : gb (sv ++ zs4) k = gb sv k := by
            unfold gb
            simp [List.getD, List.getElem?_append, show k < sv.length by rw [HSL.out]; exact hlt4]
          rw [e1] at h1
          have HB := Lib.hid hB
          clear hB hle e1
          go_wp2
          go_roundw
          case rel =>
            have hB := HB.out.set_ (8 + k) (gb sv k) (gb_lt _ _)
            rw [ov_step (by rw [HOL.out, HSL.out]; omega) (by rw [HSL.out]; exact hlt4)] at hB
            exact ⟨⟨k + 1, by rw [HSL.out]; omega, by go_num, hB, hb.setCell (p := ⟨g, 8 + k, none⟩) hbg _⟩, hB4.far (by simp; omega) _⟩
          case measure => simp [intOf]; omega
        · obtain rfl : k = 4 := by omega
          rw [List.take_of_length_le (by rw [HSL.out]; omega), HSV.out, HO.out] at hB
          have HB := Lib.hid hB
          clear hB hlt4
          go_wp2
          go_ret
          have hln : (sumdB b).length = n := by
            unfold sumdB
            rw [ov_length (by rw [nb_length, HL.out]; omega), HL.out]
          exact ⟨_, _, rfl, Blk.bo HB.out hbg hln hl1 hm1, hb⟩
end Go.Proofs.Ythndlhflkbidiaa
