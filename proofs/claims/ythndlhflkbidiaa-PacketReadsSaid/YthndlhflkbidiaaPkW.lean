/- Words on memory for chunks that stand one behind the other. -/
import Derived.Test.YthndlhflkbidiaaPkLaw
namespace Go.Proofs.Ythndlhflkbidiaa
open Go.RowKit

/-- A chunk that lies at a place. -/
def CkAt (w : World) (b o : Nat) (c : Ck) : Prop :=
  ∃ A n cap, w.cell? ⟨b, o, none⟩ = some (.int .u8 (c.k.toNat : Int)) ∧ w.cell? ⟨b, o + 1, none⟩ = some (.int .u8 (c.f.toNat : Int)) ∧ w.cell? ⟨b, o + 2, none⟩ = some (.slice A n cap) ∧
    Rd w A n c.xs ∧ n ≤ cap ∧ cap ≤ 9223372036854775807
/-- A slice that reads as chunks. -/
def Cks (w : World) (A : Option Addr) (n : Nat) (cs : List Ck) : Prop :=
  cs.length = n ∧ (0 < n → ∃ b off, A = some ⟨b, off, none⟩ ∧ ∀ j, (h : j < cs.length) → CkAt w b (off + j * 3) cs[j])
section
variable {w w' : World} {A : Option Addr} {n b o : Nat} {cs : List Ck} {c : Ck}
theorem CkAt.keep (h : CkAt w b o c) (hk : ∀ p : Addr, p.block < w.heap.size → w'.cell? p = w.cell? p) : CkAt w' b o c := by
  obtain ⟨A, n, cap, h0, h1, h2, hr, hn, hc⟩ := h
  exact ⟨A, n, cap, (hk _ (World.block_lt_of_cell? w _ h0)).trans h0, (hk _ (World.block_lt_of_cell? w _ h1)).trans h1, (hk _ (World.block_lt_of_cell? w _ h2)).trans h2, hr.keep hk, hn, hc⟩
theorem CkAt.below (h : CkAt w b o c) (hb : Below w.heap.size w w') : CkAt w' b o c := h.keep fun _ hp => hb.cell hp
theorem CkAt.lt (h : CkAt w b o c) : b < w.heap.size := by
  obtain ⟨A, n, cap, h0, _⟩ := h
  exact World.block_lt_of_cell? w _ h0
theorem Cks.len (h : Cks w A n cs) : cs.length = n := h.1
theorem Cks.nil (w : World) (A : Option Addr) : Cks w A 0 [] := ⟨rfl, fun h => absurd h (by omega)⟩
theorem Cks.keep (h : Cks w A n cs) (hk : ∀ p : Addr, p.block < w.heap.size → w'.cell? p = w.cell? p) : Cks w' A n cs :=
  ⟨h.1, fun hn => by
    obtain ⟨b, off, e, hc⟩ := h.2 hn
    exact ⟨b, off, e, fun j hj => (hc j hj).keep hk⟩⟩
theorem Cks.below (h : Cks w A n cs) (hb : Below w.heap.size w w') : Cks w' A n cs := h.keep fun _ hp => hb.cell hp
theorem Cks.alloc (h : Cks w A n cs) (o : Obj) : Cks (w.alloc o) A n cs := h.keep fun p hp => World.cell?_alloc_lt w o p hp
theorem Cks.drewN (h : Cks w A n cs) (k : Nat) : Cks (w.drewN k) A n cs := h
theorem Cks.form (h : Cks w A n cs) {k : Nat} (hk : k < n) : ∃ b off, A = some ⟨b, off, none⟩ ∧ CkAt w b (off + k * 3) (cs[k]'(by rw [h.1]; exact hk)) := by
  obtain ⟨b, off, e, hc⟩ := h.2 (by omega)
  exact ⟨b, off, e, hc k (by rw [h.1]; exact hk)⟩
end
theorem flat_take {cs : List Ck} {k : Nat} (h : k < cs.length) : flat (cs.take (k + 1)) = flat (cs.take k) ++ cs[k].bytes := by
  rw [List.take_succ_eq_append_getElem h, flat_snoc]
theorem flat_drop {cs : List Ck} {k : Nat} (h : k < cs.length) : flat (cs.drop k) = cs[k].bytes ++ flat (cs.drop (k + 1)) := by
  rw [List.drop_eq_getElem_cons h, flat_cons]
/-- What a chunk's value is, by value. -/
def ckVal (c : Ck) (A : Option Addr) (n cap : Nat) : Value := .agg #[.int .u8 (c.k.toNat : Int), .int .u8 (c.f.toNat : Int), .slice A n cap]
end Go.Proofs.Ythndlhflkbidiaa
