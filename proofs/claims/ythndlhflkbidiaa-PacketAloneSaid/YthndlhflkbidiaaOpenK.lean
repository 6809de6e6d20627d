/- A row of chunks, opened; a packet; a packet with a place. -/
import Derived.Test.YthndlhflkbidiaaOpenC
import Derived.Test.YthndlhflkbidiaaPkW
import Derived.Deep.Slices
import Derived.Deep.Fields
import Derived.ChangeSame
namespace Go.Proofs.Ythndlhflkbidiaa
open Go.ChangeShapes Go.WideShapes Go.ChangeAt Go.RowKit Go.Joins Go.Deep

/-- A slice of structs whose fields have one cell each: each element's fields. -/
theorem open_fields {H : Type} {enc : TypeId × Value → H} {P : Program} {w : World} {base : Nat} {spare : Nat → Bool} {held : Bool}
    {t e : TypeId} {fs : Array Field} {fuel : Nat} {cs : List Value} {x : DataW H × List MemPlace} (ht : P.underlying t = some (.slice e)) (he : P.underlying e = some (.struct fs))
    (hone : oneCellFields P fs = true) (hC : P.cellsOf e = fs.size) (h : DataW.trod enc P w base spare held fuel t cs = some x) :
    cs = [.slice none 0 0] ∨
    ∃ (a : Addr) (len cap : Nat), cs = [.slice (some a) len cap] ∧ len ≤ cap ∧ cap ≤ maxLen ∧
      ∀ i, i < len → ∀ (j : Nat) (f : Field), fs[j]? = some f → ∃ (n : Nat) (v : Value) (y : DataW H × List MemPlace), w.cell? (a.add (i * fs.size + j)) = some v ∧ DataW.trod enc P w base spare held n f.type [v] = some y := by
  rcases open_slice ht h with h0 | ⟨a, len, cap, m, n, D, Pl, hcs, hb, hl, hm, hmm, hx, hi⟩
  · exact .inl h0.1
  · refine .inr ⟨a, len, cap, hcs, hl, hm, fun i him j f hj => ?_⟩
    obtain ⟨cs', hc, ht'⟩ := hi i (by rw [hmm]; split <;> omega)
    rw [hC] at hc
    obtain ⟨ys, n', hn', hy, hlen, hyl, hf⟩ := DataW.trod_struct he ht'
    obtain ⟨_, hcl, hat⟩ := World.cells?_some hc
    obtain ⟨ho, hk⟩ := hone_of hone j f hj
    have hjl : j < fs.size := (Array.getElem?_eq_some_iff.1 hj).1
    have hcell := hat j hjl
    have hv : cs'[j]? = some (cs'[j]'(by omega)) := List.getElem?_eq_getElem (by omega)
    have h1 := hf j f hj
    rw [ho, hk] at h1
    have hone' : (cs'.drop j).take 1 = [cs'[j]'(by omega)] := by
      rw [List.drop_eq_getElem_cons (by omega)]
      rfl
    rw [hone'] at h1
    have hys : ys[j]? = some (ys[j]'(by omega)) := List.getElem?_eq_getElem (by omega)
    refine ⟨n', _, ys[j]'(by omega), ?_, h1.trans hys⟩
    rw [← Go.Deep.add_add, hcell, hv]

theorem u8_trod' {H : Type} {enc : TypeId × Value → H} {w : World} {b : Nat} {sp : Nat → Bool} {hd : Bool} {fuel : Nat} {v : Value} {x : DataW H × List MemPlace}
    (h : DataW.trod enc Try.prog w b sp hd fuel 5 [v] = some x) : ∃ c : UInt8, v = .int .u8 (c.toNat : Int) := by
  obtain ⟨n, rfl, hn⟩ := u8_trod h
  exact ⟨UInt8.ofNat n, by simp [Nat.mod_eq_of_lt hn]⟩
theorem u32_trod {H : Type} {enc : TypeId × Value → H} {w : World} {b : Nat} {sp : Nat → Bool} {hd : Bool} {fuel : Nat} {v : Value} {x : DataW H × List MemPlace}
    (h : DataW.trod enc Try.prog w b sp hd fuel 40 [v] = some x) : ∃ n : Nat, v = .int .u32 (n : Int) ∧ n < 4294967296 := by
  obtain ⟨n, e, _, wn⟩ := DataW.trod_int Try.underlying40 h
  have hb : 0 ≤ n ∧ n < 4294967296 := by simp [Lit.wf, IntKind.min, IntKind.max, IntKind.signed, IntKind.bits] at wn; omega
  have e' : v = .int .u32 n := by simpa using e
  exact ⟨n.toNat, by rw [Int.toNat_of_nonneg hb.1]; exact e', by omega⟩
theorem u16_trod {H : Type} {enc : TypeId × Value → H} {w : World} {b : Nat} {sp : Nat → Bool} {hd : Bool} {fuel : Nat} {v : Value} {x : DataW H × List MemPlace}
    (h : DataW.trod enc Try.prog w b sp hd fuel 66 [v] = some x) : ∃ n : Nat, v = .int .u16 (n : Int) ∧ n < 65536 := by
  obtain ⟨n, e, _, wn⟩ := DataW.trod_int Try.underlying66 h
  have hb : 0 ≤ n ∧ n < 65536 := by simp [Lit.wf, IntKind.min, IntKind.max, IntKind.signed, IntKind.bits] at wn; omega
  have e' : v = .int .u16 n := by simpa using e
  exact ⟨n.toNat, by rw [Int.toNat_of_nonneg hb.1]; exact e', by omega⟩

/-- A list that has an element at each place. -/
theorem list_of {α : Type} (P : Nat → α → Prop) : ∀ n : Nat, (∀ j, j < n → ∃ c, P j c) → ∃ l : List α, l.length = n ∧ ∀ j (h : j < l.length), P j l[j]
  | 0, _ => ⟨[], rfl, fun _ h => absurd h (by simp)⟩
  | n + 1, h => by
    obtain ⟨l, hl, hP⟩ := list_of P n (fun j hj => h j (by omega))
    obtain ⟨c, hc⟩ := h n (by omega)
    refine ⟨l ++ [c], by simp [hl], fun j hj => ?_⟩
    by_cases hjl : j < l.length
    · rw [List.getElem_append_left hjl]; exact hP j hjl
    · have e : j = l.length := by simp at hj; omega
      subst e
      rw [List.getElem_append_right (Nat.le_refl _)]
      simpa [hl] using hc

theorem cells45 : Try.prog.cellsOf 45 = 3 := by kernel_rfl
theorem chunks_trod {H : Type} {enc : TypeId × Value → H} {w : World} {b : Nat} {sp : Nat → Bool} {hd : Bool} {fuel : Nat} {v : Value} {x : DataW H × List MemPlace}
    (h : DataW.trod enc Try.prog w b sp hd fuel 41 [v] = some x) : ∃ A n c cs, v = .slice A n c ∧ Cks w A n cs ∧ n ≤ c ∧ c ≤ 9223372036854775807 := by
  rcases open_fields Try.underlying41 Try.underlying45 (by kernel_rfl) cells45 h with h0 | ⟨a, l, c, h0, hl, hm, hf⟩
  · exact ⟨none, 0, 0, [], by simpa using h0, Cks.nil _ _, Nat.le_refl _, by omega⟩
  · have hv : v = .slice (some a) l c := by simpa using h0
    refine ⟨some a, l, c, ?_⟩
    have hspot : 0 < l → a.spot = none := by
      intro hi
      obtain ⟨n0, v0, y0, c0, t0⟩ := hf 0 hi 0 _ rfl
      cases hs : a.spot with
      | none => rfl
      | some s =>
        simp only [World.cell?, Addr.add] at c0
        split at c0 <;> simp_all
    have key : ∀ i, i < l → ∃ ck : Ck, a.spot = none ∧ CkAt w a.block (a.off + i * 3) ck := by
      intro i hi
      obtain ⟨n0, v0, y0, c0, t0⟩ := hf i hi 0 _ rfl
      obtain ⟨n1, v1, y1, c1, t1⟩ := hf i hi 1 _ rfl
      obtain ⟨n2, v2, y2, c2, t2⟩ := hf i hi 2 _ rfl
      obtain ⟨k, rfl⟩ := u8_trod' t0
      obtain ⟨f, rfl⟩ := u8_trod' t1
      obtain ⟨A, n, cap, xs, rfl, hx, hn, hc⟩ := bytes_of_trod t2
      have hsp : a.spot = none := hspot (by omega)
      obtain ⟨ab, ao, ax⟩ := a
      simp only at hsp
      subst hsp
      have ea : ∀ j, (⟨ab, ao, none⟩ : Addr).add j = ⟨ab, ao + j, none⟩ := fun j => by unfold Addr.add; split <;> simp_all
      refine ⟨⟨k, f, xs⟩, rfl, A, n, cap, ?_, ?_, ?_, hx, hn, hc⟩
      · have := c0; rw [ea] at this; exact this
      · have := c1; rw [ea] at this; exact this
      · have := c2; rw [ea] at this; exact this
    obtain ⟨cs, hcl, hP⟩ := list_of _ l key
    refine ⟨cs, hv, ⟨hcl, fun h0 => ?_⟩, hl, by simpa [maxLen] using hm⟩
    obtain ⟨ab, ao, ax⟩ := a
    have hsp : ax = none := (hP 0 (by omega)).1
    subst hsp
    exact ⟨ab, ao, rfl, fun j hj => (hP j hj).2⟩
theorem chunks_of {H : Type} {enc : TypeId × Value → H} {w : World} {b0 b : Nat} {r : Reach} {sp : Nat → Bool} {hd : Bool} {v : Value} {d : DataW H} {p : List MemPlace}
    (hv : Value.okWide Try.prog w r b0 41 v) (h : DataW.Trod enc Try.prog w b sp hd 41 v d p) : ∃ A n c cs, v = .slice A n c ∧ Cks w A n cs ∧ n ≤ c ∧ c ≤ 9223372036854775807 := by
  obtain ⟨a, l, c, rfl⟩ := okWide_slice Try.underlying41 hv
  obtain ⟨fuel, hf⟩ := h
  exact chunks_trod (by simpa [Value.cells] using hf)
theorem packet_of {H : Type} {enc : TypeId × Value → H} {w : World} {b0 b : Nat} {r : Reach} {sp : Nat → Bool} {hd : Bool} {v : Value} {d : DataW H} {p : List MemPlace}
    (hv : Value.okWide Try.prog w r b0 43 v) (h : DataW.Trod enc Try.prog w b sp hd 43 v d p) :
    ∃ (t : Nat) (A : Option Addr) (n c : Nat) (cs : List Ck), v = .agg #[.int .u32 (t : Int), .slice A n c] ∧ t < 4294967296 ∧ Cks w A n cs ∧ n ≤ c ∧ c ≤ 9223372036854775807 := by
  obtain ⟨v0, v1, y0, y1, k, rfl, _, _, h0, h1⟩ := open_agg2 Try.underlying43 (by kernel_rfl) (by kernel_rfl) hv h
  obtain ⟨t, rfl, ht⟩ := u32_trod h0
  obtain ⟨A, n, c, cs, rfl, hx, hn, hc⟩ := chunks_trod h1
  exact ⟨t, A, n, c, cs, rfl, ht, hx, hn, hc⟩
end Go.Proofs.Ythndlhflkbidiaa
