/- What an argument is when it is opened: a row of bytes, a chunk, a packet. -/
import Derived.Test.YthndlhflkbidiaaMem
import Derived.Test.YthndlhflkbidiaaFacts
import Derived.WalkKit
import Derived.ProofKit
import Derived.OpenShut
import Derived.ChangeOld
import Derived.Below
import Derived.Lib.SmallJoins
namespace Go.Proofs.Ythndlhflkbidiaa
open Go.ChangeShapes Go.WideShapes Go.ChangeAt Go.RowKit Go.Joins

theorem own : ownKnob Try.prog.godebug = none := by kernel_rfl
theorem cells5 : Try.prog.cellsOf 5 = 1 := by kernel_rfl

/-- A slice of bytes as a value. -/
def IsBytes (w : World) (v : Value) : Prop := ∃ A n c xs, v = .slice A n c ∧ Rd w A n xs ∧ n ≤ c ∧ c ≤ 9223372036854775807

theorem bytes_of_trod {H : Type} {enc : TypeId × Value → H} {w : World} {b : Nat} {sp : Nat → Bool} {hd : Bool} {fuel : Nat} {v : Value} {x : DataW H × List MemPlace}
    (h : DataW.trod enc Try.prog w b sp hd fuel 22 [v] = some x) : IsBytes w v := by
  rcases open_ints Try.underlying22 Try.underlying5 cells5 h with ⟨hcs, _⟩ | ⟨a, l, c, zs, hcs, _, hl, hm, hz, _, hcell, hwz⟩
  · simp at hcs
    subst hcs
    exact ⟨none, 0, 0, [], rfl, Rd.nil _ _, Nat.le_refl _, by omega⟩
  · simp at hcs
    subst hcs
    have hlz : l ≤ zs.length := by rw [hz]; split <;> omega
    refine ⟨some a, l, c, (zs.take l).map fun n => UInt8.ofNat n.toNat, rfl, ⟨by simp; omega, fun h0 => ?_⟩, hl, by simpa [maxLen] using hm⟩
    have hc0 := hcell 0 (by omega)
    have hsp : a.spot = none := by
      cases hs : a.spot with
      | none => rfl
      | some s =>
        simp only [World.cell?, Addr.add] at hc0
        split at hc0 <;> simp_all
    obtain ⟨ab, ao, ax⟩ := a
    simp only at hsp
    subst hsp
    refine ⟨ab, ao, rfl, fun j hj => ?_⟩
    have hj' : j < zs.length := by simp at hj; omega
    have e := hcell j hj'
    have ea : (⟨ab, ao, none⟩ : Addr).add j = ⟨ab, ao + j, none⟩ := by unfold Addr.add; split <;> simp_all
    rw [ea] at e
    rw [e]
    have hw := hwz zs[j] (List.getElem_mem _)
    have hb : 0 ≤ zs[j] ∧ zs[j] < 256 := by simp [Lit.wf, IntKind.min, IntKind.max, IntKind.signed, IntKind.bits] at hw; omega
    have e2 : ((UInt8.ofNat zs[j].toNat).toNat : Int) = zs[j] := by
      rw [UInt8.toNat_ofNat', Nat.mod_eq_of_lt (by omega)]; omega
    simp only [List.getElem_map, List.getElem_take]
    rw [e2]
    simp [List.getD, hj']

theorem bytes_of {H : Type} {enc : TypeId × Value → H} {w : World} {b0 b : Nat} {r : Reach} {sp : Nat → Bool} {hd : Bool} {v : Value} {d : DataW H} {p : List MemPlace}
    (hv : Value.okWide Try.prog w r b0 22 v) (h : DataW.Trod enc Try.prog w b sp hd 22 v d p) : IsBytes w v := by
  obtain ⟨a, l, c, rfl⟩ := okWide_slice Try.underlying22 hv
  obtain ⟨fuel, hf⟩ := h
  exact bytes_of_trod (by simpa [Value.cells] using hf)

/-- An int and its bounds. -/
theorem i64_of {H : Type} {enc : TypeId × Value → H} {w : World} {b0 b : Nat} {r : Reach} {sp : Nat → Bool} {hd : Bool} {v : Value} {d : DataW H} {p : List MemPlace}
    (hv : Value.okWide Try.prog w r b0 3 v) (h : DataW.Trod enc Try.prog w b sp hd 3 v d p) : ∃ n : Int, v = .int .i64 n ∧ -9223372036854775808 ≤ n ∧ n ≤ 9223372036854775807 := by
  obtain ⟨n, rfl, _, _, wn⟩ := open_int Try.underlying3 hv h
  exact ⟨n, rfl, by simp [Lit.wf, IntKind.min, IntKind.max, IntKind.signed, IntKind.bits] at wn; omega⟩
theorem u64_of {H : Type} {enc : TypeId × Value → H} {w : World} {b0 b : Nat} {r : Reach} {sp : Nat → Bool} {hd : Bool} {v : Value} {d : DataW H} {p : List MemPlace}
    (hv : Value.okWide Try.prog w r b0 25 v) (h : DataW.Trod enc Try.prog w b sp hd 25 v d p) : ∃ n : Nat, v = .int .u64 (n : Int) ∧ n < 18446744073709551616 := by
  obtain ⟨n, rfl, _, _, wn⟩ := open_int Try.underlying25 hv h
  have hb : 0 ≤ n ∧ n < 18446744073709551616 := by simp [Lit.wf, IntKind.min, IntKind.max, IntKind.signed, IntKind.bits] at wn; omega
  exact ⟨n.toNat, by rw [Int.toNat_of_nonneg hb.1], by omega⟩
theorem u8_of {H : Type} {enc : TypeId × Value → H} {w : World} {b0 b : Nat} {r : Reach} {sp : Nat → Bool} {hd : Bool} {v : Value} {d : DataW H} {p : List MemPlace}
    (hv : Value.okWide Try.prog w r b0 5 v) (h : DataW.Trod enc Try.prog w b sp hd 5 v d p) : ∃ n : Nat, v = .int .u8 (n : Int) ∧ n < 256 := by
  obtain ⟨n, rfl, _, _, wn⟩ := open_int Try.underlying5 hv h
  have hb : 0 ≤ n ∧ n < 256 := by simp [Lit.wf, IntKind.min, IntKind.max, IntKind.signed, IntKind.bits] at wn; omega
  exact ⟨n.toNat, by rw [Int.toNat_of_nonneg hb.1], by omega⟩

theorem trodAll_below {H : Type} {enc : TypeId × Value → H} {W W' : World} (hb : Below W.heap.size W W') : ∀ (ts : List TypeId) (vs : List Value) (ds : List (DataW H)) (p : List MemPlace),
    (∀ t ∈ ts, Try.prog.readableRec t = true ∧ t < Try.prog.types.size) → DataW.TrodAll enc Try.prog W 0 (fun _ => true) true ts vs ds p →
    DataW.TrodAll enc Try.prog W' 0 (fun b => decide (b < W.heap.size)) true ts vs ds p := by
  intro ts
  induction ts with
  | nil =>
    intro vs ds p _ h
    obtain ⟨rfl, rfl, rfl⟩ := trodAll_nil h
    exact trodAll_mk0
  | cons t ts ih =>
    intro vs ds p hr h
    obtain ⟨v0, vs0, d0, ds0, p0, q0, rfl, rfl, rfl, h0, r0⟩ := trodAll_cons h
    have lt0 : ∀ x ∈ p0, x.block < W.heap.size := by obtain ⟨m, hm⟩ := h0; exact DataW.trod_lt m _ _ _ hm
    have ht := hr t (by simp)
    exact trodAll_cons_mk (Below.trod laidOut ht.1 ht.2 h0 hb lt0) (ih _ _ _ (fun u hu => hr u (by simp [hu])) r0)

/-- The last step of a law's row: it answers true, and nothing that was there has turned. -/
theorem post_law {H : Type} {enc : TypeId × Value → H} {f : Func} {s : ChangeSpec} {W W' : World} {args : Array Value} {ds : List (DataW H)} {p : List MemPlace}
    (hres : f.resultTypes = #[4]) (hs : s.vars = []) (hfn : s.fn H (ds ++ []) = { results := [.lit (.bool true)], args := ds })
    (hr : ∀ t ∈ f.params.toList, Try.prog.readableRec t = true ∧ t < Try.prog.types.size)
    (hW : DataW.Whole enc Try.prog f.params.toList s.vars false W args.toList ds [] p) (hA : DataW.TrodAll enc Try.prog W 0 (fun _ => true) true f.params.toList args.toList ds p)
    (hb : Below W.heap.size W W') : s.post enc Try.prog f false true false false W args (.bool true) W' := by
  refine ⟨ds, [], p, [], p, [], hW, ?_, ?_, ?_, hb.frame _, fun h => by cases h⟩
  · rw [hfn, hres]; exact trodAll_mk1 (shut_bool Try.underlying4 _)
  · rw [hfn]; exact trodAll_below hb _ _ _ _ hr hA
  · rw [hs, hfn]; exact rfl
end Go.Proofs.Ythndlhflkbidiaa
