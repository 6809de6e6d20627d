/- Rows of bytes that lie apart: the words for Apart. -/
import Derived.Test.YthndlhflkbidiaaPads
import Derived.Deep.RegionWith
namespace Go.Proofs.Ythndlhflkbidiaa
open Go.RowKit

/-- A row: a slice value, and all the bytes that its room holds. -/
structure Row where
  A : Option Addr
  n : Nat
  c : Nat
  zs : List UInt8
def Row.val (r : Row) : Value := .slice r.A r.n r.c
def Row.xs (r : Row) : List UInt8 := r.zs.take r.n
/-- The row as a string. -/
def Row.st (r : Row) : ByteArray := ⟨r.xs.toArray⟩
def RowOk (w : World) (r : Row) : Prop := r.zs.length = r.c ∧ r.n ≤ r.c ∧ r.c ≤ 9223372036854775807 ∧ (0 < r.c → ∃ g, r.A = some ⟨g, 0, none⟩ ∧ Blk w g r.zs)

theorem RowOk.rd {w : World} {r : Row} (h : RowOk w r) : Rd w r.A r.n r.xs := by
  refine ⟨by have := h.1; have := h.2.1; simp [Row.xs]; omega, fun hn => ?_⟩
  obtain ⟨g, e, hb⟩ := h.2.2.2 (by have := h.2.1; omega)
  refine ⟨g, 0, e, fun j hj => ?_⟩
  have hj2 : j < r.zs.length := by simp [Row.xs] at hj; omega
  rw [Nat.zero_add, hb.cell hj2, gb_get _ _ hj2]
  simp [Row.xs]
theorem RowOk.keep {w w' : World} {r : Row} (h : RowOk w r) (hk : ∀ g, 0 < r.c → r.A = some ⟨g, 0, none⟩ → g < w.heap.size → w'.heap[g]? = w.heap[g]?) : RowOk w' r :=
  ⟨h.1, h.2.1, h.2.2.1, fun hc => by
    obtain ⟨g, e, hb⟩ := h.2.2.2 hc
    exact ⟨g, e, (hk g hc e hb.lt).trans hb⟩⟩
theorem RowOk.of_bo {w : World} {base : Nat} {A : Option Addr} {n c : Nat} {xs : List UInt8} (h : Bo w base A n c xs) : ∃ r : Row, r.A = A ∧ r.n = n ∧ r.c = c ∧ RowOk w r := by
  have hm := h.2.2.1
  unfold maxLen at hm
  by_cases hc : 0 < c
  · obtain ⟨g, ys, e, _, hl, hb⟩ := h.blk hc
    exact ⟨⟨A, n, c, xs ++ ys⟩, rfl, rfl, rfl, by simp [h.1]; omega, h.2.1, by simp; omega, fun _ => ⟨g, e, hb⟩⟩
  · have hc0 : c = 0 := by omega
    exact ⟨⟨A, n, c, []⟩, rfl, rfl, rfl, by simp [hc0], h.2.1, by simp; omega, fun h0 => absurd h0 (by simp; omega)⟩

/-- The bytes as a string, whatever the address. -/
theorem run_convert_rd {w : World} {A : Option Addr} {n : Nat} {xs : List UInt8} (h : Rd w A n xs) (c : Nat) : (convert 22 9 (.slice A n c)).run Try.prog w = .ok (.string ⟨xs.toArray⟩) w := by
  have hs : Try.prog.underlying 22 = some (.slice 5) := Try.underlying22
  have he : Try.prog.underlying 5 = some (.int .u8) := Try.underlying5
  cases A with
  | none =>
    have hn : n = 0 := by
      rcases Nat.eq_zero_or_pos n with h0 | h0
      · exact h0
      · obtain ⟨b, off, e, _⟩ := h.2 h0
        cases e
    subst hn
    obtain rfl : xs = [] := List.eq_nil_of_length_eq_zero h.1
    exact run_convert_bytes_nil w 22 5 hs he 0 c 9 Try.underlying9
  | some a =>
    rw [run_convert_bytes_string w 22 9 5 _ n c hs he Try.underlying9]
    have hl : (loadCells a n).run Try.prog w = .ok ((xs.map fun b => (b.toNat : Int)).map (Value.int .u8)).toArray w := by
      have := run_loadCells_list (P := Try.prog) w a (bs xs) (h.cells rfl)
      rw [bs_length, h.1] at this
      rw [this]
      congr 2
      simp [bs]
    rw [run_bytesToString w _ n c _ hl, foldl_push_bytes]
    congr 2
    simp [ByteArray.empty, ByteArray.emptyWithCapacity, List.map_map, Function.comp_def]
    rfl

/-- Each bit turned. -/
def fl (b : UInt8) : UInt8 := UInt8.ofNat (255 - b.toNat)
theorem fl_fl (b : UInt8) : fl (fl b) = b := by
  have h := b.toNat_lt
  apply UInt8.toNat_inj.1
  simp [fl]
  omega
theorem fl_map (zs : List UInt8) : (zs.map fl).map fl = zs := by
  rw [List.map_map]
  conv => rhs; rw [← List.map_id zs]
  exact List.map_congr_left fun b _ => fl_fl b
/-- The first j turned. -/
def flTo (zs : List UInt8) (j : Nat) : List UInt8 := (zs.take j).map fl ++ zs.drop j
theorem flTo_length (zs : List UInt8) (j : Nat) : (flTo zs j).length = zs.length := by simp [flTo]; omega
theorem flTo_zero (zs : List UInt8) : flTo zs 0 = zs := by simp [flTo]
theorem flTo_all (zs : List UInt8) : flTo zs zs.length = zs.map fl := by simp [flTo]
theorem flTo_gb (zs : List UInt8) (j : Nat) (h : j < zs.length) : gb (flTo zs j) j = gb zs j := by
  rw [gb_get _ _ (by rw [flTo_length]; exact h), gb_get _ _ h]
  unfold flTo
  rw [List.getElem_append_right (by simp; omega)]
  simp [Nat.min_eq_left (Nat.le_of_lt h)]
theorem flTo_set (zs : List UInt8) (j : Nat) (h : j < zs.length) : (flTo zs j).set j (UInt8.ofNat (255 - gb zs j)) = flTo zs (j + 1) := by
  unfold flTo
  rw [List.set_append_right _ _ (by simp; omega), List.take_succ_eq_append_getElem h, List.map_append]
  have e : j - ((zs.take j).map fl).length = 0 := by simp; omega
  rw [e, List.drop_eq_getElem_cons h, gb_get _ _ h, List.set_cons_zero]
  simp [fl]

set_option maxRecDepth 100000 in
theorem xor255 : ∀ x : Fin 256, 255 ^^^ x.val = 255 - x.val := by decide
theorem not_u8 (x : Nat) (h : x < 256) : bits .xor .u8 (if IntKind.u8.signed = true then -1 else IntKind.u8.max) (x : Int) = ((255 - x : Nat) : Int) := by
  have e : bits .xor .u8 (if IntKind.u8.signed = true then -1 else IntKind.u8.max) (x : Int) = bits .xor .u8 ((255 : Nat) : Int) (x : Int) := rfl
  rw [e, u8_xor_nat 255 x (by omega) h, xor255 ⟨x, h⟩]
theorem grown_set {a w : World} {g : Nat} (h : a.grownBy w (some g)) (k : Nat) (u : Value) : a.grownBy (w.setCell ⟨g, k, none⟩ u) (some g) :=
  ⟨h.os, h.tape, h.output, by simpa [World.setCell] using h.size, fun i hi hne => (Below.heap_setCell w ⟨g, k, none⟩ u i (by rintro rfl; exact hne rfl)).trans (h.block i hi hne)⟩
theorem grown_drewN {a w : World} {row : Option Nat} (h : a.grownBy w row) (n : Nat) : a.grownBy (w.drewN n) row := ⟨h.os, h.tape, h.output, h.size, h.block⟩

/-- The rows as strings, the first k. -/
def strs (rs : Nat → Row) (k : Nat) : List Value := (List.range k).map fun i => Value.string (rs i).st
theorem strs_length (rs : Nat → Row) (k : Nat) : (strs rs k).length = k := by simp [strs]
theorem strs_succ (rs : Nat → Row) (k : Nat) : strs rs (k + 1) = strs rs k ++ [Value.string (rs k).st] := by simp [strs, List.range_succ]
theorem strs_get (rs : Nat → Row) (N k : Nat) (h : k < N) : (strs rs N)[k]? = some (Value.string (rs k).st) := by simp [strs, h]
theorem strs_one (rs : Nat → Row) (k : Nat) : ∀ u ∈ strs rs k, u.oneCell' = true := by
  intro u hu
  obtain ⟨_, _, rfl⟩ := List.mem_map.1 hu
  rfl

/-- Rows that lie apart. -/
structure Rows3 (w : World) (G N : Nat) (rs : Nat → Row) : Prop where
  cell : ∀ k, k < N → w.cell? ⟨G, k, none⟩ = some (rs k).val
  ok : ∀ k, k < N → RowOk w (rs k)
  apart : ∀ i k g, i < N → k < N → 0 < (rs i).c → 0 < (rs k).c → (rs i).A = some ⟨g, 0, none⟩ → (rs k).A = some ⟨g, 0, none⟩ → i = k
theorem Rows3.ne {w : World} {G N : Nat} {rs : Nat → Row} (h : Rows3 w G N rs) {i g : Nat} (hi : i < N) (hc : 0 < (rs i).c) (hA : (rs i).A = some ⟨g, 0, none⟩) : G ≠ g := by
  rintro rfl
  obtain ⟨g', e, hb⟩ := (h.ok i hi).2.2.2 hc
  rw [hA] at e
  injection e with e
  injection e with e
  subst e
  have h0 := h.cell 0 (by omega)
  rw [hb.cell (by rw [(h.ok i hi).1]; exact hc)] at h0
  simp [Row.val] at h0
theorem Rows3.below {w w' : World} {G N : Nat} {rs : Nat → Row} (h : Rows3 w G N rs) (hb : Below w.heap.size w w') : Rows3 w' G N rs :=
  ⟨fun k hk => (hb.cell (p := ⟨G, k, none⟩) (World.block_lt_of_cell? w _ (h.cell k hk))).trans (h.cell k hk),
   fun k hk => (h.ok k hk).keep fun g _ _ hg => hb.block g hg, h.apart⟩
end Go.Proofs.Ythndlhflkbidiaa
