/- What the document's Read of a packet holds between two chunks; what it answers. -/
import Derived.Test.YthndlhflkbidiaaPkRR
import Derived.Test.YthndlhflkbidiaaCpW
import Derived.Test.YthndlhflkbidiaaPkWrR
namespace Go.Proofs.Ythndlhflkbidiaa
open Go Go.RowKit

theorem res60 {W : World} {tmps : Array Value} {g : Nat} {a b : Value} (t2 : tmps.getD 2 undef = .pointer (some ⟨g, 0, none⟩))
    (h1 : W.heap[g]? = some (.cells #[a, b] 43 (0, 0))) : (results Try.f60 tmps).run Try.prog W = .ok (.tuple #[.agg #[a, b], tmps.getD 3 undef]) W := by
  have t2' : tmps[2]?.getD undef = .pointer (some ⟨g, 0, none⟩) := by simpa using t2
  have e1 := run_loadVar_row (P := Try.prog) W g 43 43 #[a, b] (0, 0) _ h1 Try.underlying43 rfl info43'
  simp [results, t2', asAddr, e1]
theorem out60 {w1 : World} {g : Nat} {x y a b : Value} (h1 : w1.heap[g]? = some (.cells #[x, y] 43 (0, 0))) : ((w1.setCell ⟨g, 0, none⟩ a).setCell ⟨g, 1, none⟩ b).heap[g]? = some (.cells #[a, b] 43 (0, 0)) := by
  have e1 := heap_setCell_same w1 g 0 _ 43 a h1
  exact heap_setCell_same _ g 1 _ 43 b e1
/-- What the document's Read answers. -/
def PkOutR (w : World) (b : List UInt8) (e : Ending) (w' : World) : Prop :=
  ∃ A n c, e = .returned (.tuple #[.agg #[.int .u32 (pkTag b : Int), .slice A n c], .int .i64 (pkErr b : Int)]) ∧ Cks w' A n (pkCks b) ∧ n ≤ c ∧ c ≤ 9223372036854775807 ∧ Below w.heap.size w w'
theorem PkOutR.bad {w : World} {b : List UInt8} {e : Ending} {w' : World} {k : Nat} (he : pkErr b = k) (h0 : k ≠ 0)
    (h : e = .returned (.tuple #[.agg #[.int .u32 0, .slice none 0 0], .int .i64 (k : Int)]) ∧ Below w.heap.size w w') : PkOutR w b e w' := by
  obtain ⟨h1, h2⟩ := pkCks_bad (b := b) (by omega)
  refine ⟨none, 0, 0, ?_, by rw [h1]; exact Cks.nil _ _, Nat.le_refl _, by omega, h.2⟩
  rw [h2, he]
  exact h.1

/-- Between two chunks: P: the packet's own block. -/
structure RrI (w wr : World) (P T : Nat) (v : Value) (ps : List Cp) : Prop where
  below : Below w.heap.size w wr
  r0 : wr.heap[w.heap.size]? = some (.cells #[.int .u32 0, .slice none 0 0] 43 (0, 0))
  pb : wr.heap[P]? = some (.cells #[.int .u32 (T : Int), v] 43 (0, 0))
  own : OwnC wr (P + 1) v ps
  bod : Owned wr w.heap.size ps
  far : w.heap.size < P

theorem RrI.pb4 {w wr W3 w4 : World} {P T : Nat} {v : Value} {ps : List Cp} (h : RrI w wr P T v ps) (hb : Below wr.heap.size wr W3) (hg : W3.grownBy w4 v.ownBlock) :
    w4.heap[P]? = some (.cells #[.int .u32 (T : Int), v] 43 (0, 0)) ∧ w4.heap[w.heap.size]? = some (.cells #[.int .u32 0, .slice none 0 0] 43 (0, 0)) := by
  have ho := h.own.below hb
  have k1 := KC.row hg
  have hno : ∀ g cs t, W3.heap[g]? = some (.cells cs t (0, 0)) → t ≠ 45 → ¬ v.ownBlock = some g := fun g cs t hh ht e => by
    obtain ⟨_, cs', hh'⟩ := ho.block e
    rw [hh] at hh'
    simp at hh'
    exact ht hh'.2
  have e0 := stays h.r0 hb
  have e1 := stays h.pb hb
  exact ⟨k1.same _ _ _ _ e1 (hno _ _ _ e1 (by decide)), k1.same _ _ _ _ e0 (hno _ _ _ e0 (by decide))⟩
theorem RrI.step {w wr W3 w4 : World} {P T : Nat} {v v' : Value} {ps : List Cp} (h : RrI w wr P T v ps) (hb : Below wr.heap.size wr W3) {p : Cp}
    (hp : Bo W3 w.heap.size p.A p.c.xs.length p.cap p.c.xs) (hown : OwnC w4 (P + 1) v' (ps ++ [p])) (hg : W3.grownBy w4 v.ownBlock) :
    RrI w (w4.setCell ⟨P, 1, none⟩ v') P T v' (ps ++ [p]) := by
  have ho := h.own.below hb
  have k1 := KC.row hg
  have hno : ∀ g cs t, W3.heap[g]? = some (.cells cs t (0, 0)) → t ≠ 45 → ¬ v.ownBlock = some g := fun g cs t hh ht e => by
    obtain ⟨_, cs', hh'⟩ := ho.block e
    rw [hh] at hh'
    simp at hh'
    exact ht hh'.2
  obtain ⟨f1, f0⟩ := h.pb4 hb hg
  have hfar := h.far
  have hB3 : Owned W3 w.heap.size ps := h.bod.kc (E := fun _ => False) (KC.of_below hb) (fun _ _ _ => id)
  have hB4 : Owned w4 w.heap.size (ps ++ [p]) := (hB3.snoc hp).kc k1 (fun g cs hh => hno g cs _ hh (by decide))
  have k2 := KC.setCell w4 ⟨P, 1, none⟩ v'
  have hE : ∀ g cs t, w4.heap[g]? = some (.cells cs t (0, 0)) → t ≠ 43 → ¬ g = P := by
    rintro g cs t hg2 h4 rfl
    rw [f1] at hg2
    simp at hg2
    exact h4 hg2.2.symm
  have b4 : Below w.heap.size w w4 := (h.below.trans (hb.mono h.below.size)).grown hg (Nat.le_trans h.below.size hb.size) (fun g e => by have := (ho.block e).1; omega)
  exact ⟨b4.setCell (p := ⟨P, 1, none⟩) (Nat.le_of_lt hfar) v', k2.same _ _ _ _ f0 (Nat.ne_of_lt hfar), heap_setCell_same w4 P 1 _ 43 v' f1,
    hown.kc k2 (fun g cs hh => hE g cs _ hh (by decide)), hB4.kc k2 (fun g cs hh => hE g cs _ hh (by decide)), hfar⟩
theorem RrI.first {w wr : World} {T : Nat} (hb : Below w.heap.size w wr) (h0 : wr.heap[w.heap.size]? = some (.cells #[.int .u32 0, .slice none 0 0] 43 (0, 0))) :
    RrI w (wr.alloc (.cells #[.int .u32 (T : Int), .slice none 0 0] 43)) wr.heap.size T (.slice none 0 0) [] :=
  ⟨hb.alloc hb.size _, (Below.heap_alloc wr _ _ (lt_of_heap h0)).trans h0, heap_alloc_new wr _, ownC_nil _ _, fun p hp => absurd hp (by simp), lt_of_heap h0⟩
theorem cells_ck {W : World} {g : Nat} {ck : Ck} {B : Option Addr} {d : Nat} {m : Nat} (hm : ck.xs.length = m) (h : W.heap[g]? = some (.cells #[.int .u8 (ck.k.toNat : Int), .int .u8 (ck.f.toNat : Int), .slice B m d] 45 (0, 0))) :
    ∀ j u, (rowsV [(⟨ck, B, d⟩ : Cp)])[j]? = some u → W.cell? ((⟨g, 0, none⟩ : Addr).add j) = some u := by
  subst hm
  exact cells_block (vs := rowsV [(⟨ck, B, d⟩ : Cp)]) h

theorem rd60_short (A : Option Addr) (N C : Nat) (w : World) (h : N < 12) :
    Calls Try.prog 60 #[.slice A N C] w fun e w' => e = .returned (.tuple #[.agg #[.int .u32 0, .slice none 0 0], .int .i64 7]) ∧ Below w.heap.size w w' := by
  have h' : (N : Int) < 12 := by omega
  go_enter Try.func60, Try.ntmps60
  go_wp2
  exact bodyPost_ret (v := .tuple #[.agg #[.int .u32 0, .slice none 0 0], .int .i64 7]) (by rw [res60 (g := w.heap.size) rfl (heap_alloc_new w _)]; rfl) rfl ⟨rfl, (Below.refl _ _).alloc (Nat.le_refl _) _⟩
end Go.Proofs.Ythndlhflkbidiaa
