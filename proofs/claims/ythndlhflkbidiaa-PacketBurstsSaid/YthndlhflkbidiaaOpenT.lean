/- A packet with a place and a byte, a packet with a place and a pattern: opened. -/
import Derived.Test.YthndlhflkbidiaaOpenK
import Derived.Test.YthndlhflkbidiaaOpenP
namespace Go.Proofs.Ythndlhflkbidiaa
open Go.ChangeShapes Go.WideShapes Go.ChangeAt Go.RowKit Go.Joins Go.Deep

theorem four_of {α : Type} (a : Array α) (h : a.size = 4) : ∃ x y z u, a = #[x, y, z, u] := by
  obtain ⟨l⟩ := a
  match l, h with
  | [x, y, z, u], _ => exact ⟨x, y, z, u, rfl⟩
theorem cells43 : Try.prog.cellsOf 43 = 2 := by kernel_rfl
theorem cells66 : Try.prog.cellsOf 66 = 1 := by kernel_rfl
theorem cells3 : Try.prog.cellsOf 3 = 1 := by kernel_rfl
theorem cells40 : Try.prog.cellsOf 40 = 1 := by kernel_rfl
theorem cells41 : Try.prog.cellsOf 41 = 1 := by kernel_rfl
theorem cells79 : Try.prog.cellsOf 79 = 4 := by kernel_rfl
theorem cells76 : Try.prog.cellsOf 76 = 4 := by kernel_rfl

theorem packet_cells {H : Type} {enc : TypeId × Value → H} {w : World} {b : Nat} {sp : Nat → Bool} {hd : Bool} {fuel : Nat} {c0 c1 : Value} {x : DataW H × List MemPlace}
    (h : DataW.trod enc Try.prog w b sp hd fuel 43 [c0, c1] = some x) :
    ∃ (t : Nat) (A : Option Addr) (n c : Nat) (cs : List Ck), c0 = .int .u32 (t : Int) ∧ c1 = .slice A n c ∧ t < 4294967296 ∧ Cks w A n cs ∧ n ≤ c ∧ c ≤ 9223372036854775807 := by
  obtain ⟨y0, y1, n, _, _, h0, h1⟩ := trod_struct2 Try.underlying43 h
  change DataW.trod enc Try.prog w b sp hd n 40 (([c0, c1].drop 0).take (Try.prog.cellsOf 40)) = _ at h0
  change DataW.trod enc Try.prog w b sp hd n 41 (([c0, c1].drop 1).take (Try.prog.cellsOf 41)) = _ at h1
  rw [cells40] at h0
  rw [cells41] at h1
  obtain ⟨t, rfl, ht⟩ := u32_trod h0
  obtain ⟨A, n, c, cs, rfl, hx, hn, hc⟩ := chunks_trod h1
  exact ⟨t, A, n, c, cs, rfl, rfl, ht, hx, hn, hc⟩

theorem turn_of {H : Type} {enc : TypeId × Value → H} {w : World} {b0 b : Nat} {r : Reach} {sp : Nat → Bool} {hd : Bool} {v : Value} {d : DataW H} {p : List MemPlace}
    (hv : Value.okWide Try.prog w r b0 79 v) (h : DataW.Trod enc Try.prog w b sp hd 79 v d p) :
    ∃ (t : Nat) (A : Option Addr) (n c : Nat) (cs : List Ck) (i u : Nat), v = .agg #[.int .u32 (t : Int), .slice A n c, .int .u16 (i : Int), .int .u8 (u : Int)] ∧ t < 4294967296 ∧ Cks w A n cs ∧ n ≤ c ∧ c ≤ 9223372036854775807 ∧ i < 65536 ∧ u < 256 := by
  obtain ⟨cs, rfl, hs⟩ := okWide_struct Try.underlying79 hv
  rw [cells79] at hs
  obtain ⟨c0, c1, c2, c3, rfl⟩ := four_of cs hs
  obtain ⟨fuel, hf⟩ := h
  have hf' : DataW.trod enc Try.prog w b sp hd fuel 79 [c0, c1, c2, c3] = some (d, p) := by simpa [Value.cells] using hf
  obtain ⟨xs, m, _, _, _, hlen, hx⟩ := DataW.trod_struct Try.underlying79 hf'
  match xs, hlen with
  | [y0, y1, y2], _ =>
    have h0 := hx 0 _ rfl
    have h1 := hx 1 _ rfl
    have h2 := hx 2 _ rfl
    change DataW.trod enc Try.prog w b sp hd m 43 (([c0, c1, c2, c3].drop 0).take (Try.prog.cellsOf 43)) = some y0 at h0
    change DataW.trod enc Try.prog w b sp hd m 66 (([c0, c1, c2, c3].drop 2).take (Try.prog.cellsOf 66)) = some y1 at h1
    change DataW.trod enc Try.prog w b sp hd m 5 (([c0, c1, c2, c3].drop 3).take (Try.prog.cellsOf 5)) = some y2 at h2
    rw [cells43] at h0
    rw [cells66] at h1
    rw [cells5] at h2
    obtain ⟨t, A, n, c, cs, rfl, rfl, ht, hq, hn, hc⟩ := packet_cells h0
    obtain ⟨i, rfl, hi⟩ := u16_trod h1
    obtain ⟨u, rfl, hu⟩ := u8_trod h2
    exact ⟨t, A, n, c, cs, i, u, rfl, ht, hq, hn, hc, hi, hu⟩

theorem burst_of {H : Type} {enc : TypeId × Value → H} {w : World} {b0 b : Nat} {r : Reach} {sp : Nat → Bool} {hd : Bool} {v : Value} {d : DataW H} {p : List MemPlace}
    (hv : Value.okWide Try.prog w r b0 76 v) (h : DataW.Trod enc Try.prog w b sp hd 76 v d p) :
    ∃ (t : Nat) (A : Option Addr) (n c : Nat) (cs : List Ck) (i : Int) (u : Nat), v = .agg #[.int .u32 (t : Int), .slice A n c, .int .i64 i, .int .u32 (u : Int)] ∧ t < 4294967296 ∧ Cks w A n cs ∧ n ≤ c ∧ c ≤ 9223372036854775807 ∧ (-9223372036854775808 ≤ i ∧ i ≤ 9223372036854775807) ∧ u < 4294967296 := by
  obtain ⟨cs, rfl, hs⟩ := okWide_struct Try.underlying76 hv
  rw [cells76] at hs
  obtain ⟨c0, c1, c2, c3, rfl⟩ := four_of cs hs
  obtain ⟨fuel, hf⟩ := h
  have hf' : DataW.trod enc Try.prog w b sp hd fuel 76 [c0, c1, c2, c3] = some (d, p) := by simpa [Value.cells] using hf
  obtain ⟨xs, m, _, _, _, hlen, hx⟩ := DataW.trod_struct Try.underlying76 hf'
  match xs, hlen with
  | [y0, y1, y2], _ =>
    have h0 := hx 0 _ rfl
    have h1 := hx 1 _ rfl
    have h2 := hx 2 _ rfl
    change DataW.trod enc Try.prog w b sp hd m 43 (([c0, c1, c2, c3].drop 0).take (Try.prog.cellsOf 43)) = some y0 at h0
    change DataW.trod enc Try.prog w b sp hd m 3 (([c0, c1, c2, c3].drop 2).take (Try.prog.cellsOf 3)) = some y1 at h1
    change DataW.trod enc Try.prog w b sp hd m 40 (([c0, c1, c2, c3].drop 3).take (Try.prog.cellsOf 40)) = some y2 at h2
    rw [cells43] at h0
    rw [cells3] at h1
    rw [cells40] at h2
    obtain ⟨t, A, n, c, cs, rfl, rfl, ht, hq, hn, hc⟩ := packet_cells h0
    obtain ⟨i, rfl, hi⟩ := i64_trod h1
    obtain ⟨u, rfl, hu⟩ := u32_trod h2
    exact ⟨t, A, n, c, cs, i, u, rfl, ht, hq, hn, hc, hi, hu⟩
end Go.Proofs.Ythndlhflkbidiaa
