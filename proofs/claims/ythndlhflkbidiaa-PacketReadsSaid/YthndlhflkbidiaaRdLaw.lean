/- The bodies of a packet's chunks and the row that they were read of: apart. -/
import Derived.Test.YthndlhflkbidiaaRdRR
import Derived.Test.YthndlhflkbidiaaPkRd
import Derived.Test.YthndlhflkbidiaaApart
namespace Go.Proofs.Ythndlhflkbidiaa
open Go Go.RowKit

theorem info22 : (Try.prog.info? 22).map (fun i => (i.zero, i.size, i.bytes)) = some (some (.slice none 0 0), 1, 24) := by kernel_rfl
def Cp.bodyV (p : Cp) : Value := .slice p.A p.c.xs.length p.cap
/-- The row's value and those of the bodies. -/
def rowVs (v : Value) (ps : List Cp) (k : Nat) : List Value := v :: (ps.take k).map Cp.bodyV
theorem rowVs_zero (v : Value) (ps : List Cp) : rowVs v ps 0 = [v] := by simp [rowVs]
theorem rowVs_succ (v : Value) (ps : List Cp) (k : Nat) (h : k < ps.length) : rowVs v ps (k + 1) = rowVs v ps k ++ [(ps[k]).bodyV] := by
  unfold rowVs
  rw [List.take_succ_eq_append_getElem h, List.map_append]
  rfl
theorem rows_bodies {w : World} {base G : Nat} {ps : List Cp} {r0 : Row} (h0 : RowOk w r0) (hB : Bodies w base ps) (hlt : ∀ g, 0 < r0.c → r0.A = some ⟨g, 0, none⟩ → g < base)
    (hcell : ∀ k, k < ps.length + 1 → w.cell? ⟨G, k, none⟩ = (rowVs r0.val ps ps.length)[k]?) : ∃ rs, Rows3 w G (ps.length + 1) rs := by
  have hk : ∀ k, ∃ r : Row, ∀ h : k < ps.length, r.A = (ps[k]).A ∧ r.n = (ps[k]).c.xs.length ∧ r.c = (ps[k]).cap ∧ RowOk w r := fun k => by
    by_cases h : k < ps.length
    · obtain ⟨r, h1, h2, h3, h4⟩ := RowOk.of_bo (hB.own _ (List.getElem_mem h))
      exact ⟨r, fun _ => ⟨h1, h2, h3, h4⟩⟩
    · exact ⟨r0, fun h' => absurd h' h⟩
  obtain ⟨f, hf⟩ : ∃ f : Nat → Row, ∀ k, ∀ h : k < ps.length, (f k).A = (ps[k]).A ∧ (f k).n = (ps[k]).c.xs.length ∧ (f k).c = (ps[k]).cap ∧ RowOk w (f k) :=
    ⟨fun k => Classical.choose (hk k), fun k => Classical.choose_spec (hk k)⟩
  have pl : ∀ k (h : k < ps.length) g, 0 < (f k).c → (f k).A = some ⟨g, 0, none⟩ → base ≤ g := fun k h g hc hA => by
    obtain ⟨h1, _, h3, _⟩ := hf k h
    rw [h1] at hA
    rw [h3] at hc
    exact ((hB.own _ (List.getElem_mem h)).place g hc hA).1
  refine ⟨fun k => match k with | 0 => r0 | k + 1 => f k, ⟨fun k hk => ?_, fun k hk => ?_, fun i k g hi hk hci hck hAi hAk => ?_⟩⟩
  · rw [hcell k hk]
    match k, hk with
    | 0, _ => rfl
    | k + 1, hk =>
      obtain ⟨h1, h2, h3, _⟩ := hf k (by omega)
      simp only [rowVs, List.getElem?_cons_succ, List.take_length, List.getElem?_map]
      rw [List.getElem?_eq_getElem (by omega)]
      simp [Row.val, Cp.bodyV, h1, h2, h3]
  · match k, hk with
    | 0, _ => exact h0
    | k + 1, hk => exact (hf k (by omega)).2.2.2
  · match i, hi, k, hk with
    | 0, _, 0, _ => rfl
    | 0, _, k + 1, hk =>
      have := hlt g hci hAi
      have := pl k (by omega) g hck hAk
      omega
    | i + 1, hi, 0, _ =>
      have := hlt g hck hAk
      have := pl i (by omega) g hci hAi
      omega
    | i + 1, hi, k + 1, hk =>
      obtain ⟨a1, _, a3, _⟩ := hf i (by omega)
      obtain ⟨b1, _, b3, _⟩ := hf k (by omega)
      simp only at hci hck hAi hAk
      rw [a1] at hAi
      rw [a3] at hci
      rw [b1] at hAk
      rw [b3] at hck
      rw [hB.apart i k (by omega) (by omega) g hci hck hAi hAk]
theorem Bodies.later {w w' : World} {base : Nat} {ps : List Cp} (h : Bodies w base ps) (hb : Below w.heap.size w w') : Bodies w' base ps := h.kc (E := fun _ => False) (KC.of_below hb) (fun _ _ _ => id)
/-- Where a chunk's body lies. -/
theorem OwnC.body {w : World} {base g c : Nat} {ps : List Cp} (h : OwnC w base (.slice (some ⟨g, 0, none⟩) ps.length c) ps) {k : Nat} (hk : k < ps.length) : w.cell? ⟨g, k * 3 + 2, none⟩ = some (ps[k]).bodyV := by
  rw [World.ownsRow.cellAt h (k * 3 + 2) (by omega), rowsV_get ps k 2 hk (by omega)]
  rfl
end Go.Proofs.Ythndlhflkbidiaa
