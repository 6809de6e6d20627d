/- A row of chunks that a call owns; append onto it. -/
import Derived.Test.YthndlhflkbidiaaPkW
import Derived.Laws.AppendOwn
import Derived.Maps.AppendAt
namespace Go.Proofs.Ythndlhflkbidiaa
open Go.RowKit

/-- A chunk, where its body lies, and the body's room. -/
structure Cp where
  c : Ck
  A : Option Addr
  cap : Nat
def Cp.vals (p : Cp) : List Value := [.int .u8 (p.c.k.toNat : Int), .int .u8 (p.c.f.toNat : Int), .slice p.A p.c.xs.length p.cap]
def rowsV (ps : List Cp) : List Value := ps.flatMap Cp.vals
theorem rowsV_length (ps : List Cp) : (rowsV ps).length = ps.length * 3 := by
  induction ps with
  | nil => rfl
  | cons p ps ih =>
    have e : rowsV (p :: ps) = p.vals ++ rowsV ps := by simp [rowsV]
    rw [e, List.length_append, ih, List.length_cons]
    have : p.vals.length = 3 := rfl
    omega
theorem rowsV_cons (p : Cp) (ps : List Cp) : rowsV (p :: ps) = p.vals ++ rowsV ps := by simp [rowsV]
theorem rowsV_append (ps qs : List Cp) : rowsV (ps ++ qs) = rowsV ps ++ rowsV qs := by simp [rowsV]
theorem rowsV_one (p : Cp) : rowsV [p] = p.vals := by simp [rowsV]
theorem rowsV_cell (ps : List Cp) : ∀ u ∈ rowsV ps, u.oneCell' = true := by
  intro u hu
  unfold rowsV at hu
  rw [List.mem_flatMap] at hu
  obtain ⟨p, _, hp⟩ := hu
  simp [Cp.vals] at hp
  rcases hp with rfl | rfl | rfl <;> rfl
theorem rowsV_get (ps : List Cp) : ∀ (j i : Nat) (hj : j < ps.length), i < 3 → (rowsV ps)[j * 3 + i]? = (ps[j]).vals[i]? := by
  induction ps with
  | nil => intro j i hj; exact absurd hj (by simp)
  | cons p ps ih =>
    intro j i hj hi
    have h3 : p.vals.length = 3 := rfl
    rw [rowsV_cons]
    cases j with
    | zero => rw [List.getElem?_append_left (by omega)]; simp
    | succ j =>
      rw [List.getElem?_append_right (by omega), h3, show (j + 1) * 3 + i - 3 = j * 3 + i by omega, ih j i (by simpa using hj) hi]
      rfl
/-- A body that reads. -/
def BodyOk (w : World) (p : Cp) : Prop := Rd w p.A p.c.xs.length p.c.xs ∧ p.c.xs.length ≤ p.cap ∧ p.cap ≤ 9223372036854775807
theorem BodyOk.keep {w w' : World} {p : Cp} (h : BodyOk w p) (hk : ∀ q : Addr, q.block < w.heap.size → w'.cell? q = w.cell? q) : BodyOk w' p := ⟨h.1.keep hk, h.2⟩
theorem BodyOk.below {w w' : World} {p : Cp} (h : BodyOk w p) (hb : Below w.heap.size w w') : BodyOk w' p := ⟨h.1.below hb, h.2⟩
theorem ckat_vals {w : World} {b o : Nat} {p : Cp} (h : ∀ i u, p.vals[i]? = some u → w.cell? ⟨b, o + i, none⟩ = some u) (hb : BodyOk w p) : CkAt w b o p.c :=
  ⟨p.A, p.c.xs.length, p.cap, h 0 _ rfl, h 1 _ rfl, h 2 _ rfl, hb.1, hb.2.1, hb.2.2⟩
abbrev OwnC (w : World) (base : Nat) (v : Value) (ps : List Cp) : Prop := w.ownsRow base 45 3 v ps.length (rowsV ps)
theorem ownC_nil (w : World) (base : Nat) : OwnC w base (.slice none 0 0) [] := World.ownsRow_nil _ _ _ _
theorem OwnC.form {w : World} {base : Nat} {v : Value} {ps : List Cp} (h : OwnC w base v ps) : ∃ A c, v = .slice A ps.length c ∧ ps.length ≤ c ∧ c ≤ maxLen := by
  rcases h.2 with ⟨rfl, h0⟩ | ⟨g, cap, cur, rfl, _, _, h1, h2, _⟩
  · exact ⟨none, 0, by rw [h0], by omega, Nat.zero_le _⟩
  · exact ⟨_, cap, rfl, h1, h2⟩
theorem OwnC.cks {w : World} {base : Nat} {A : Option Addr} {n c : Nat} {ps : List Cp} (h : OwnC w base (.slice A n c) ps) (hb : ∀ p ∈ ps, BodyOk w p) : n = ps.length ∧ Cks w A ps.length (ps.map (·.c)) := by
  rcases h.2 with ⟨e, h0⟩ | ⟨g, cap, cur, e, _, _, h1, h2, _⟩
  · have e2 := List.eq_nil_of_length_eq_zero h0
    subst e2
    injection e with e1 e2 e3
    exact ⟨by simpa using e2, Cks.nil _ _⟩
  · injection e with e1 e2 e3
    subst e1 e2
    refine ⟨rfl, by simp, fun _ => ⟨g, 0, rfl, fun j hj => ?_⟩⟩
    have hj' : j < ps.length := by simpa using hj
    have hk := h.cells (g := g) rfl
    rw [List.getElem_map]
    refine ckat_vals (fun i u hu => ?_) (hb _ (List.getElem_mem _))
    have hi : i < 3 := by
      have := (List.getElem?_eq_some_iff.1 hu).1
      have h3 : (ps[j]).vals.length = 3 := rfl
      omega
    have := hk (j * 3 + i) u (by rw [rowsV_get ps j i hj' hi]; exact hu)
    have ea : (⟨g, 0, none⟩ : Addr).add (j * 3 + i) = ⟨g, 0 + j * 3 + i, none⟩ := by
      unfold Addr.add
      split
      · simp_all
      · simp
    rw [ea] at this
    exact this

theorem info45' : (Try.prog.info? 45).map (fun i => (i.zero, i.size, i.bytes)) = some (some (.agg #[.int .u8 0, .int .u8 0, .slice none 0 0]), 3, 32) := by kernel_rfl
theorem cells_block {w : World} {g : Nat} {vs : List Value} (h : w.heap[g]? = some (.cells vs.toArray 45 (0, 0))) : ∀ j u, vs[j]? = some u → w.cell? ((⟨g, 0, none⟩ : Addr).add j) = some u := by
  intro j u hu
  have ea : (⟨g, 0, none⟩ : Addr).add j = ⟨g, j, none⟩ := by unfold Addr.add; split <;> simp_all
  rw [ea, cell_of_row w g j _ 45 (0, 0) h]
  simpa using hu

/-- append of rows of chunks onto what is owned. -/
theorem wpList_chunks (w : World) {ops : Array Oper} {rest : List Oper} {o : Oper} {a : Act} {Q : Exit → Act → World → Prop} (hgd : o.guard = none) (s x : Operand)
    (ho : o.op = .call { callee := .builtin .append, args := #[s, x], argTypes := #[41, 41] }) (base : Nat) (v : Value) (ps qs : List Cp) (hs : a.eval s = v) (hown : OwnC w base v ps)
    (ad : Addr) (m c : Nat) (hm : qs.length = m) (hx : a.eval x = .slice (some ad) m c) (hc : ∀ j u, (rowsV qs)[j]? = some u → w.cell? (ad.add j) = some u)
    (hlen : ps.length + m ≤ 1000000) (hbase : base ≤ w.heap.size)
    (hK : ∀ A c w', OwnC w' base (.slice A (ps.length + m) c) (ps ++ qs) → w.grownBy w' v.ownBlock → wpList Try.prog ops Q rest (a.put o.dst (.slice A (ps.length + m) c)) w') :
    wpList Try.prog ops Q (o :: rest) a w := by
  obtain ⟨i0, hi, hz0, hz1, hz2⟩ := info_parts info45'
  refine wpList_append_own w hgd s x 41 ho base 45 i0 _ 3 32 Try.underlying41 hi hz0 hz1 hz2 rfl (by decide) v ps.length (rowsV ps) hs hown ad m c (rowsV qs) hx (by rw [rowsV_length, hm]) hc (rowsV_cell qs) (by unfold maxLen; omega) (by omega) hbase ?_
  intro v' w' h1 h2 _
  have h3 : OwnC w' base v' (ps ++ qs) := by
    unfold OwnC
    rw [List.length_append, hm, rowsV_append]
    exact h1
  obtain ⟨A, c', rfl, _⟩ := h3.form
  rw [List.length_append, hm] at h3 ⊢
  exact hK A c' w' h3 h2
theorem below_ownC {w w' : World} {base : Nat} {v : Value} {ps : List Cp} (h : OwnC w base v ps) (hg : w.grownBy w' v.ownBlock) (hb : base ≤ w.heap.size) : Below base w w' :=
  ⟨hg.os, hg.tape, hg.output, hg.size, fun k hk => hg.block k (by omega) (fun e => by have := (h.lt k e.symm).1; omega)⟩
theorem OwnC.below {w w' : World} {base : Nat} {v : Value} {ps : List Cp} (h : OwnC w base v ps) (hb : Below w.heap.size w w') : OwnC w' base v ps :=
  h.kept (row := none) ⟨hb.os, hb.tape, hb.output, hb.size, fun k hk _ => hb.block k hk⟩ (by
    cases hv : v.ownBlock with
    | none => exact .inl rfl
    | some g => exact .inr (by simp))
end Go.Proofs.Ythndlhflkbidiaa
