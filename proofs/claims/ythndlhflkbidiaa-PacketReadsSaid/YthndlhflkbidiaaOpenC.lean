/- A chunk, opened; a number of 16 bits. -/
import Derived.Test.YthndlhflkbidiaaOpenP
namespace Go.Proofs.Ythndlhflkbidiaa
open Go.ChangeShapes Go.WideShapes Go.ChangeAt Go.RowKit Go.Joins

theorem u8_trod {H : Type} {enc : TypeId × Value → H} {w : World} {b : Nat} {sp : Nat → Bool} {hd : Bool} {fuel : Nat} {v : Value} {x : DataW H × List MemPlace}
    (h : DataW.trod enc Try.prog w b sp hd fuel 5 [v] = some x) : ∃ n : Nat, v = .int .u8 (n : Int) ∧ n < 256 := by
  obtain ⟨n, e, _, wn⟩ := DataW.trod_int Try.underlying5 h
  have hb : 0 ≤ n ∧ n < 256 := by simp [Lit.wf, IntKind.min, IntKind.max, IntKind.signed, IntKind.bits] at wn; omega
  have e' : v = .int .u8 n := by simpa using e
  exact ⟨n.toNat, by rw [Int.toNat_of_nonneg hb.1]; exact e', by omega⟩
theorem u16_of {H : Type} {enc : TypeId × Value → H} {w : World} {b0 b : Nat} {r : Reach} {sp : Nat → Bool} {hd : Bool} {v : Value} {d : DataW H} {p : List MemPlace}
    (hv : Value.okWide Try.prog w r b0 66 v) (h : DataW.Trod enc Try.prog w b sp hd 66 v d p) : ∃ n : Nat, v = .int .u16 (n : Int) ∧ n < 65536 := by
  obtain ⟨n, rfl, _, _, wn⟩ := open_int Try.underlying66 hv h
  have hb : 0 ≤ n ∧ n < 65536 := by simp [Lit.wf, IntKind.min, IntKind.max, IntKind.signed, IntKind.bits] at wn; omega
  exact ⟨n.toNat, by rw [Int.toNat_of_nonneg hb.1], by omega⟩
theorem chunk_of {H : Type} {enc : TypeId × Value → H} {w : World} {b0 b : Nat} {r : Reach} {sp : Nat → Bool} {hd : Bool} {v : Value} {d : DataW H} {p : List MemPlace}
    (hv : Value.okWide Try.prog w r b0 45 v) (h : DataW.Trod enc Try.prog w b sp hd 45 v d p) :
    ∃ (k f : Nat) (A : Option Addr) (n c : Nat) (xs : List UInt8), v = .agg #[.int .u8 (k : Int), .int .u8 (f : Int), .slice A n c] ∧ k < 256 ∧ f < 256 ∧ Rd w A n xs ∧ n ≤ c ∧ c ≤ 9223372036854775807 := by
  obtain ⟨v0, v1, v2, y0, y1, y2, k, rfl, _, _, h0, h1, h2⟩ := open_agg3 Try.underlying45 (by kernel_rfl) (by kernel_rfl) hv h
  obtain ⟨k, rfl, hk⟩ := u8_trod h0
  obtain ⟨f, rfl, hf⟩ := u8_trod h1
  obtain ⟨A, n, c, xs, rfl, hx, hn, hc⟩ := bytes_of_trod h2
  exact ⟨k, f, A, n, c, xs, rfl, hk, hf, hx, hn, hc⟩
end Go.Proofs.Ythndlhflkbidiaa
