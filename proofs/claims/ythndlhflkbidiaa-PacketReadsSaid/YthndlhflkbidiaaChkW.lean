/- chunk.Write, the program's and the document's: the bytes of a chunk. -/
import Derived.Test.YthndlhflkbidiaaNumsP
import Derived.Test.YthndlhflkbidiaaApart
namespace Go.Proofs.Ythndlhflkbidiaa
open Go.RowKit

theorem nb2_length (x : Nat) : (nb x 2).length = 2 := nb_length x 2
/-- The bytes of a chunk, ahead of the padding. -/
def ckRaw (k f : Nat) (xs : List UInt8) : List UInt8 := [UInt8.ofNat k, UInt8.ofNat f] ++ nb (4 + xs.length) 2 ++ xs
def ckB (k f : Nat) (xs : List UInt8) : List UInt8 := padded (ckRaw k f xs)
theorem ckRaw_length (k f : Nat) (xs : List UInt8) : (ckRaw k f xs).length = 4 + xs.length := by simp [ckRaw, nb2_length]; omega
theorem ckB_length (k f : Nat) (xs : List UInt8) : (ckB k f xs).length = up (4 + xs.length) := by rw [ckB, padded_length, ckRaw_length]

/-- Two bytes in a block of their own. -/
theorem rd_two (w : World) (a b : Nat) (ha : a < 256) (hb : b < 256) : Bo (w.alloc (.cells #[.int .u8 (a : Int), .int .u8 (b : Int)] 5)) w.heap.size (some ⟨w.heap.size, 0, none⟩) 2 2 [UInt8.ofNat a, UInt8.ofNat b] := by
  have h := Blk.new w [UInt8.ofNat a, UInt8.ofNat b]
  have e : (bs [UInt8.ofNat a, UInt8.ofNat b]).toArray = #[.int .u8 (a : Int), .int .u8 (b : Int)] := by
    simp [bs, Nat.mod_eq_of_lt ha, Nat.mod_eq_of_lt hb]
  rw [e] at h
  exact Blk.bo (xs := [UInt8.ofNat a, UInt8.ofNat b]) (ys := []) (by simpa using h) (Nat.le_refl _) rfl rfl (by unfold maxLen; omega)

theorem ckw_big (k f : Int) (A : Option Addr) (n c : Nat) (w : World) (h : (65531 : Int) < (n : Int)) :
    Calls Try.prog 49 #[.agg #[.int .u8 k, .int .u8 f, .slice A n c]] w fun e w' => e = .returned (.slice none 0 0) ∧ Below w.heap.size w w' := by
  go_enter Try.func49, Try.ntmps49
  go_wp2
  go_ret
  exact ⟨rfl, (Below.refl _ _).alloc (Nat.le_refl _) _⟩

theorem ckw_any (k f : Nat) (A : Option Addr) (n c : Nat) (xs : List UInt8) (w : World) (hk : k < 256) (hf : f < 256) (hx : Rd w A n xs) (h : (n : Int) ≤ 65531) :
    Calls Try.prog 49 #[.agg #[.int .u8 (k : Int), .int .u8 (f : Int), .slice A n c]] w (Fresh w (up (4 + n)) (ckB k f xs)) := by
  have HL := Lib.hid hx.len
  have hu := up_le (4 + n)
  have t0 : Below w.heap.size w (w.alloc (.cells #[.int .u8 (k : Int), .int .u8 (f : Int), .slice A n c] 45)) := (Below.refl _ _).alloc (Nat.le_refl _) _
  go_enter Try.func49, Try.ntmps49
  go_wp2_with fail
  have hB0 := rd_two (w.alloc (.cells #[.int .u8 (k : Int), .int .u8 (f : Int), .slice A n c] 45)) k f hk hf
  simp only [World.size_alloc] at hB0
  refine (put_at _ _ _ _ (4 + (n : Int)) 2 (4 + n) 2 _ (by omega) rfl hB0.rd (by decide) (by omega)).mono ?_
  rintro e w1 ⟨A1, c1, rfl, hB1, hb1⟩
  simp only [World.size_alloc] at hB1 hb1
  have hs1 := hb1.size
  simp only [World.size_alloc] at hs1
  have hx1 : Rd w1 A n xs := ((hx.alloc _).alloc _).below (by simpa using hb1)
  have c2 : w1.cell? ⟨w.heap.size, 2, none⟩ = some (.slice A n c) := (hb1.cell (by simp; omega)).trans (by rw [World.cell?_alloc_lt _ _ _ (by simp), World.cell?_alloc_new]; rfl)
  go_wp2_with (at_builtin; refine wpList_bytes R22 _ rfl (.tmp 19) (.tmp 21) rfl (w.heap.size + 1 + 1) rfl rfl hB1 hx1 (by omega) hs1 ?_; intro A2 c2' w2 hB2 hg2 hor2)
  have hb2 := below_grown hB1 hg2 hs1
  clear hg2 hor2
  have e4 : 2 + 2 + n = 4 + n := by omega
  rw [e4] at hB2
  go_wp2_with fail
  refine (pad_any _ _ _ _ _ hB2.rd (by omega)).mono ?_
  rintro e w3 ⟨A3, c3, rfl, hB3, hb3⟩
  have t1 : Below w.heap.size w w1 := (t0.alloc (by simp) _).trans (hb1.mono (by omega))
  have t2 : Below w.heap.size w w2 := t1.trans (hb2.mono (by omega))
  go_wp2
  go_ret
  have hB3' : Bo w3 w2.heap.size A3 (up (4 + n)) c3 (ckB k f xs) := by
    have := hB3
    unfold ckB ckRaw
    rw [HL.out]
    exact this
  exact ⟨A3, c3, rfl, hB3'.mono t2.size, t2.trans (hb3.mono t2.size)⟩

/-- The document's. -/
theorem ckwR_big (k f : Int) (A : Option Addr) (n c : Nat) (w : World) (h : (65531 : Int) < (n : Int)) :
    Calls Try.prog 50 #[.agg #[.int .u8 k, .int .u8 f, .slice A n c]] w fun e w' => e = .returned (.slice none 0 0) ∧ Below w.heap.size w w' := by
  go_enter Try.func50, Try.ntmps50
  go_wp2
  go_ret
  exact ⟨rfl, (Below.refl _ _).alloc (Nat.le_refl _) _⟩

theorem ckwR_any (k f : Nat) (A : Option Addr) (n c : Nat) (xs : List UInt8) (w : World) (hk : k < 256) (hf : f < 256) (hx : Rd w A n xs) (h : (n : Int) ≤ 65531) :
    Calls Try.prog 50 #[.agg #[.int .u8 (k : Int), .int .u8 (f : Int), .slice A n c]] w (Fresh w (up (4 + n)) (ckB k f xs)) := by
  have HL := Lib.hid hx.len
  have hu := up_le (4 + n)
  have t0 : Below w.heap.size w (w.alloc (.cells #[.int .u8 (k : Int), .int .u8 (f : Int), .slice A n c] 45)) := (Below.refl _ _).alloc (Nat.le_refl _) _
  go_enter Try.func50, Try.ntmps50
  go_wp2_with fail
  have hB0 := rd_two (w.alloc (.cells #[.int .u8 (k : Int), .int .u8 (f : Int), .slice A n c] 45)) k f hk hf
  simp only [World.size_alloc] at hB0
  refine (putR_at _ _ _ _ (4 + (n : Int)) 2 (4 + n) 2 _ (by omega) rfl hB0.rd (by decide) (by omega)).mono ?_
  rintro e w1 ⟨A1, c1, rfl, hB1, hb1⟩
  simp only [World.size_alloc] at hB1 hb1
  have hs1 := hb1.size
  simp only [World.size_alloc] at hs1
  have hx1 : Rd w1 A n xs := ((hx.alloc _).alloc _).below (by simpa using hb1)
  have c2 : w1.cell? ⟨w.heap.size, 2, none⟩ = some (.slice A n c) := (hb1.cell (by simp; omega)).trans (by rw [World.cell?_alloc_lt _ _ _ (by simp), World.cell?_alloc_new]; rfl)
  go_wp2_with (at_builtin; refine wpList_bytes R22 _ rfl (.tmp 20) (.tmp 22) rfl (w.heap.size + 1 + 1) rfl rfl hB1 hx1 (by omega) hs1 ?_; intro A2 c2' w2 hB2 hg2 hor2)
  have hb2 := below_grown hB1 hg2 hs1
  clear hg2 hor2
  have e4 : 2 + 2 + n = 4 + n := by omega
  rw [e4] at hB2
  go_wp2_with fail
  refine (padR_any _ _ _ _ _ hB2.rd (by omega)).mono ?_
  rintro e w3 ⟨A3, c3, rfl, hB3, hb3⟩
  have t1 : Below w.heap.size w w1 := (t0.alloc (by simp) _).trans (hb1.mono (by omega))
  have t2 : Below w.heap.size w w2 := t1.trans (hb2.mono (by omega))
  go_wp2
  go_ret
  have hB3' : Bo w3 w2.heap.size A3 (up (4 + n)) c3 (ckB k f xs) := by
    have := hB3
    unfold ckB ckRaw
    rw [HL.out]
    exact this
  exact ⟨A3, c3, rfl, hB3'.mono t2.size, t2.trans (hb3.mono t2.size)⟩
end Go.Proofs.Ythndlhflkbidiaa
