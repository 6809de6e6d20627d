/- A piece, opened. -/
import Derived.Test.YthndlhflkbidiaaOpen
namespace Go.Proofs.Ythndlhflkbidiaa
open Go.ChangeShapes Go.WideShapes Go.ChangeAt Go.RowKit Go.Joins

theorem i64_trod {H : Type} {enc : TypeId × Value → H} {w : World} {b : Nat} {sp : Nat → Bool} {hd : Bool} {fuel : Nat} {v : Value} {x : DataW H × List MemPlace}
    (h : DataW.trod enc Try.prog w b sp hd fuel 3 [v] = some x) : ∃ n : Int, v = .int .i64 n ∧ -9223372036854775808 ≤ n ∧ n ≤ 9223372036854775807 := by
  obtain ⟨n, e, _, wn⟩ := DataW.trod_int Try.underlying3 h
  have e' : v = .int .i64 n := by simpa using e
  exact ⟨n, e', by simp [Lit.wf, IntKind.min, IntKind.max, IntKind.signed, IntKind.bits] at wn; omega⟩

theorem piece_of {H : Type} {enc : TypeId × Value → H} {w : World} {b0 b : Nat} {r : Reach} {sp : Nat → Bool} {hd : Bool} {v : Value} {d : DataW H} {p : List MemPlace}
    (hv : Value.okWide Try.prog w r b0 56 v) (h : DataW.Trod enc Try.prog w b sp hd 56 v d p) :
    ∃ A n c xs i m q, v = .agg #[.slice A n c, .int .i64 i, .int .i64 m, .int .i64 q] ∧ Rd w A n xs ∧ n ≤ c ∧ c ≤ 9223372036854775807 ∧
      (-9223372036854775808 ≤ i ∧ i ≤ 9223372036854775807) ∧ (-9223372036854775808 ≤ m ∧ m ≤ 9223372036854775807) ∧ (-9223372036854775808 ≤ q ∧ q ≤ 9223372036854775807) := by
  obtain ⟨v0, v1, v2, v3, y0, y1, y2, y3, k, rfl, _, _, h0, h1, h2, h3⟩ := open_agg4 Try.underlying56 (by kernel_rfl) (by kernel_rfl) hv h
  obtain ⟨A, n, c, xs, rfl, hx, hn, hc⟩ := bytes_of_trod h0
  obtain ⟨i, rfl, hi⟩ := i64_trod h1
  obtain ⟨m, rfl, hm⟩ := i64_trod h2
  obtain ⟨q, rfl, hq⟩ := i64_trod h3
  exact ⟨A, n, c, xs, i, m, q, rfl, hx, hn, hc, hi, hm, hq⟩
end Go.Proofs.Ythndlhflkbidiaa
