/- Words on memory for the proofs of this seat: what it is that a slice value reads as bytes, that it owns bytes, and what append does to it. No program in sight. -/
import Derived.WalkKit
import Derived.Below
import Derived.Laws.OwnMore
import Derived.Laws.CopyOwn
import Derived.Laws.BytesArg
import Derived.Deep.AppendLies
import Derived.Deep.Draws
import Derived.Deep.AppendSrc
import Derived.Maps.AppendAt
import Derived.Lib.AppendZeros
import Derived.Lib.AppendZerosOnto
import Derived.Lib.Hide
namespace Go.Proofs.Ythndlhflkbidiaa
open Go.RowKit

/-! ### bytes as values -/
def bs (xs : List UInt8) : List Value := xs.map fun b => Value.int .u8 (b.toNat : Int)
theorem bs_length (xs : List UInt8) : (bs xs).length = xs.length := by simp [bs]
theorem bs_append (xs ys : List UInt8) : bs (xs ++ ys) = bs xs ++ bs ys := by simp [bs]
theorem bs_get (xs : List UInt8) (j : Nat) (h : j < xs.length) : (bs xs)[j]? = some (.int .u8 (xs[j].toNat : Int)) := by simp [bs, h]
theorem bs_oneCell (xs : List UInt8) : ∀ u ∈ bs xs, u.oneCell' = true := by
  intro u hu
  obtain ⟨_, _, rfl⟩ := List.mem_map.1 hu
  rfl
theorem bs_set (xs : List UInt8) (j : Nat) (b : UInt8) : (bs xs).toArray.setIfInBounds j (.int .u8 (b.toNat : Int)) = (bs (xs.set j b)).toArray := by
  simp [bs, List.map_set]
theorem bs_take (xs : List UInt8) (k : Nat) : (bs xs).take k = bs (xs.take k) := by simp [bs, List.map_take]
theorem bs_drop (xs : List UInt8) (k : Nat) : (bs xs).drop k = bs (xs.drop k) := by simp [bs, List.map_drop]
theorem bs_zero (n : Nat) : bs (List.replicate n 0) = List.replicate n (Value.int .u8 0) := by simp [bs]
theorem u8_ofNat_val (b : UInt8) (n : Int) (h : n = (b.toNat : Int)) : Value.int .u8 n = .int .u8 (b.toNat : Int) := by rw [h]

/-- The byte at a place, as a number; 0 where there is none. Closed to simp. -/
def gb (xs : List UInt8) (k : Nat) : Nat := (xs.getD k 0).toNat
theorem gb_lt (xs : List UInt8) (k : Nat) : gb xs k < 256 := (xs.getD k 0).toNat_lt
theorem gb_get (xs : List UInt8) (k : Nat) (h : k < xs.length) : gb xs k = xs[k].toNat := by simp [gb, List.getD, h]
theorem gb_out (xs : List UInt8) (k : Nat) (h : xs.length ≤ k) : gb xs k = 0 := by simp [gb, List.getD, h]
theorem gb_ofNat (xs : List UInt8) (k : Nat) (h : k < xs.length) : UInt8.ofNat (gb xs k) = xs[k] := by rw [gb_get xs k h]; simp
theorem take_succ' (xs : List UInt8) (k : Nat) (h : k < xs.length) : xs.take (k + 1) = xs.take k ++ [UInt8.ofNat (gb xs k)] := by
  rw [List.take_succ_eq_append_getElem h, gb_ofNat xs k h]

/-! ### addresses -/
theorem block_add (a : Addr) (n : Nat) : (a.add n).block = a.block := by unfold Addr.add; split <;> rfl
theorem add_add' (a : Addr) (i j : Nat) : (a.add i).add j = a.add (i + j) := by
  unfold Addr.add
  by_cases hi : i = 0 <;> by_cases hj : j = 0 <;> simp [hi, hj, Nat.add_assoc]
theorem add_zero' (a : Addr) : a.add 0 = a := by simp [Addr.add]

/-! ### a slice that reads as bytes -/
def Rd (w : World) (A : Option Addr) (n : Nat) (xs : List UInt8) : Prop :=
  xs.length = n ∧ (0 < n → ∃ b off, A = some ⟨b, off, none⟩ ∧ ∀ j, (h : j < xs.length) → w.cell? ⟨b, off + j, none⟩ = some (.int .u8 (xs[j].toNat : Int)))

section
variable {w w' : World} {A : Option Addr} {n c : Nat} {xs ys : List UInt8}
theorem Rd.len (h : Rd w A n xs) : xs.length = n := h.1
theorem Rd.nil (w : World) (A : Option Addr) : Rd w A 0 [] := ⟨rfl, fun h => absurd h (by omega)⟩
theorem Rd.at_ {k : Nat} (h : Rd w A n xs) (hk : k < n) : ∃ b off, A = some ⟨b, off, none⟩ ∧ w.cell? ⟨b, off + k, none⟩ = some (.int .u8 (gb xs k : Int)) := by
  obtain ⟨b, off, e, hc⟩ := h.2 (by omega)
  have hk' : k < xs.length := by have := h.1; omega
  refine ⟨b, off, e, ?_⟩
  rw [hc k hk', gb_get xs k hk']
theorem Rd.form (h : Rd w A n xs) (h0 : 0 < n) : ∃ b off, A = some ⟨b, off, none⟩ ∧ ∀ k, k < n → w.cell? ⟨b, off + k, none⟩ = some (.int .u8 (gb xs k : Int)) := by
  obtain ⟨b, off, e, hc⟩ := h.2 h0
  refine ⟨b, off, e, fun k hk => ?_⟩
  have hk' : k < xs.length := by have := h.1; omega
  rw [hc k hk', gb_get xs k hk']
theorem Rd.cells {a : Addr} (h : Rd w A n xs) (hA : A = some a) : ∀ j u, (bs xs)[j]? = some u → w.cell? (a.add j) = some u := by
  intro j u hu
  have hj : j < xs.length := by have := (List.getElem?_eq_some_iff.1 hu).1; simpa [bs_length] using this
  obtain ⟨b, off, e, hc⟩ := h.2 (by have := h.1; omega)
  subst hA
  injection e with e
  subst e
  rw [bs_get xs j hj] at hu
  have : (⟨b, off, none⟩ : Addr).add j = ⟨b, off + j, none⟩ := by unfold Addr.add; split <;> simp_all
  rw [this, hc j hj, hu]
theorem Rd.keep (h : Rd w A n xs) (hk : ∀ p : Addr, p.block < w.heap.size → w'.cell? p = w.cell? p) : Rd w' A n xs :=
  ⟨h.1, fun hn => by
    obtain ⟨b, off, e, hc⟩ := h.2 hn
    exact ⟨b, off, e, fun j hj => (hk _ (World.block_lt_of_cell? w _ (hc j hj))).trans (hc j hj)⟩⟩
theorem Rd.below (h : Rd w A n xs) (hb : Below w.heap.size w w') : Rd w' A n xs := h.keep fun _ hp => hb.cell hp
theorem Rd.below_ {w0 : World} (h : Rd w0 A n xs) (hb : Below w0.heap.size w0 w) : Rd w A n xs := h.keep fun _ hp => hb.cell hp
theorem Rd.drewN (h : Rd w A n xs) (k : Nat) : Rd (w.drewN k) A n xs := h
theorem Rd.alloc (h : Rd w A n xs) (o : Obj) : Rd (w.alloc o) A n xs := h.keep fun p hp => World.cell?_alloc_lt w o p hp
theorem Rd.cut (h : Rd w A n xs) {k m cap : Nat} (hkm : k + m ≤ n) (hc : n ≤ cap) (B : Option Addr) (hB : B = if cap = k then A else A.map (·.add k)) : Rd w B m ((xs.drop k).take m) := by
  refine ⟨by simp [h.1]; omega, fun hn => ?_⟩
  obtain ⟨b, off, rfl, hcell⟩ := h.2 (by omega)
  rw [if_neg (by omega)] at hB
  subst hB
  refine ⟨b, off + k, ?_, fun j hj => ?_⟩
  · simp only [Option.map_some]; unfold Addr.add; split <;> simp_all
  · have hj2 : j < m := by simp at hj; omega
    rw [Nat.add_assoc, hcell (k + j) (by have := h.1; omega)]
    simp
theorem Rd.cast {m : Nat} (h : Rd w A n xs) (e : n = m) : Rd w A m xs := e ▸ h
end

/-- One byte in a block of its own. -/
theorem rd_one (w : World) (v : Int) (h0 : 0 ≤ v) (h1 : v < 256) : Rd (w.alloc (.cells #[.int .u8 v] 5)) (some ⟨w.heap.size, 0, none⟩) 1 [UInt8.ofNat v.toNat] := by
  refine ⟨rfl, fun _ => ⟨w.heap.size, 0, rfl, fun j hj => ?_⟩⟩
  obtain rfl : j = 0 := by simp at hj; omega
  simp only [Nat.zero_add, World.cell?_alloc_new]
  have e : ((UInt8.ofNat v.toNat).toNat : Int) = v := by
    rw [UInt8.toNat_ofNat', Nat.mod_eq_of_lt (by omega)]; omega
  show _ = some (Value.int .u8 ((UInt8.ofNat v.toNat).toNat : Int))
  rw [e]; rfl

/-! ### a slice that owns bytes: its block is known whole -/
def Bo (w : World) (base : Nat) (A : Option Addr) (n c : Nat) (xs : List UInt8) : Prop :=
  xs.length = n ∧ n ≤ c ∧ c ≤ maxLen ∧ (0 < c → ∃ (g : Nat) (ys : List UInt8), A = some ⟨g, 0, none⟩ ∧ base ≤ g ∧ n + ys.length = c ∧ w.heap[g]? = some (.cells (bs (xs ++ ys)).toArray 5 (0, 0)))

section
variable {w w' : World} {base base' : Nat} {A : Option Addr} {n c : Nat} {xs : List UInt8}
theorem Bo.nil (w : World) (base : Nat) (A : Option Addr) : Bo w base A 0 0 [] := ⟨rfl, Nat.le_refl _, Nat.zero_le _, fun h => absurd h (by omega)⟩
theorem Bo.len (h : Bo w base A n c xs) : xs.length = n := h.1
theorem Bo.rd (h : Bo w base A n c xs) : Rd w A n xs := by
  refine ⟨h.1, fun hn => ?_⟩
  obtain ⟨g, ys, e, _, _, hh⟩ := h.2.2.2 (by have := h.2.1; omega)
  refine ⟨g, 0, e, fun j hj => ?_⟩
  rw [cell_of_row w g (0 + j) _ 5 (0, 0) hh]
  simp [bs, List.getElem?_append, hj]
theorem Bo.mono (h : Bo w base A n c xs) (hb : base' ≤ base) : Bo w base' A n c xs :=
  ⟨h.1, h.2.1, h.2.2.1, fun hc => by
    obtain ⟨g, ys, e, hg, hl, hh⟩ := h.2.2.2 hc
    exact ⟨g, ys, e, by omega, hl, hh⟩⟩
theorem lt_of_heap {w : World} {g : Nat} {o : Obj} (h : w.heap[g]? = some o) : g < w.heap.size := (Array.getElem?_eq_some_iff.1 h).1
theorem Bo.keep (h : Bo w base A n c xs) (hk : ∀ g, g < w.heap.size → base ≤ g → (0 < c → A = some ⟨g, 0, none⟩) → w'.heap[g]? = w.heap[g]?) : Bo w' base A n c xs :=
  ⟨h.1, h.2.1, h.2.2.1, fun hc => by
    obtain ⟨g, ys, e, hg, hl, hh⟩ := h.2.2.2 hc
    exact ⟨g, ys, e, hg, hl, by rw [hk g (lt_of_heap hh) hg (fun _ => e)]; exact hh⟩⟩
theorem Bo.below (h : Bo w base A n c xs) (hb : Below w.heap.size w w') : Bo w' base A n c xs := h.keep fun g hg _ _ => hb.block g hg
theorem Bo.alloc (h : Bo w base A n c xs) (o : Obj) : Bo (w.alloc o) base A n c xs := h.keep fun g hg _ _ => Below.heap_alloc w o g hg
theorem Bo.drewN (h : Bo w base A n c xs) (k : Nat) : Bo (w.drewN k) base A n c xs := h
theorem Bo.grown (h : Bo w base A n c xs) {row : Option Nat} (hg : w.grownBy w' row) (hne : ∀ g, 0 < c → A = some ⟨g, 0, none⟩ → row ≠ some g) : Bo w' base A n c xs :=
  ⟨h.1, h.2.1, h.2.2.1, fun hc => by
    obtain ⟨g, ys, e, hb, hl, hh⟩ := h.2.2.2 hc
    exact ⟨g, ys, e, hb, hl, by rw [hg.block g (lt_of_heap hh) (fun e' => hne g hc e e'.symm)]; exact hh⟩⟩
end

/-! ### a block that is known whole, as bytes -/
def Blk (w : World) (g : Nat) (zs : List UInt8) : Prop := w.heap[g]? = some (.cells (bs zs).toArray 5 (0, 0))
section
variable {w w' : World} {g : Nat} {zs : List UInt8}
theorem Blk.lt (h : Blk w g zs) : g < w.heap.size := lt_of_heap h
theorem Blk.cell (h : Blk w g zs) {k : Nat} (hk : k < zs.length) : w.cell? ⟨g, k, none⟩ = some (.int .u8 (gb zs k : Int)) := by
  rw [cell_of_row w g k _ 5 (0, 0) h]
  simp [bs, hk, gb_get zs k hk]
theorem Blk.frozen (h : Blk w g zs) (k : Nat) : w.frozen? ⟨g, k, none⟩ = false := frozen_of_row w g k _ 5 h
theorem Blk.set_ (h : Blk w g zs) (k x : Nat) (hx : x < 256) : Blk (w.setCell ⟨g, k, none⟩ (.int .u8 (x : Int))) g (zs.set k (UInt8.ofNat x)) := by
  unfold Blk at *
  have e : (x : Int) = ((UInt8.ofNat x).toNat : Int) := by simp [Nat.mod_eq_of_lt hx]
  rw [e, heap_setCell_same w g k _ 5 _ h, bs_set]
theorem Blk.new (w : World) (zs : List UInt8) : Blk (w.alloc (.cells (bs zs).toArray 5)) w.heap.size zs := heap_alloc_new w _
theorem Blk.drewN (h : Blk w g zs) (n : Nat) : Blk (w.drewN n) g zs := h
theorem Blk.below {B : Nat} (h : Blk w g zs) (hb : Below B w w') (hg : g < B) : Blk w' g zs := (hb.block g hg).trans h
theorem Blk.after (h : Blk w g zs) (hb : Below w.heap.size w w') : Blk w' g zs := (hb.block g h.lt).trans h
theorem Blk.alloc (h : Blk w g zs) (o : Obj) : Blk (w.alloc o) g zs := (Below.heap_alloc w o g h.lt).trans h
theorem Blk.far (h : Blk w g zs) {p : Addr} (hp : g ≠ p.block) (u : Value) : Blk (w.setCell p u) g zs := (Below.heap_setCell w p u g hp).trans h
theorem Blk.grown {row : Option Nat} (h : Blk w g zs) (hb : w.grownBy w' row) (hg : row ≠ some g) : Blk w' g zs := (hb.block g h.lt (fun e => hg e.symm)).trans h
theorem Blk.bo {base : Nat} {xs ys : List UInt8} (h : Blk w g (xs ++ ys)) (hb : base ≤ g) {n c : Nat} (hn : xs.length = n) (hc : n + ys.length = c) (hm : c ≤ maxLen) : Bo w base (some ⟨g, 0, none⟩) n c xs :=
  ⟨hn, by omega, hm, fun _ => ⟨g, ys, rfl, hb, hc, h⟩⟩
theorem Bo.blk {base : Nat} {A : Option Addr} {n c : Nat} {xs : List UInt8} (h : Bo w base A n c xs) (hc : 0 < c) : ∃ g ys, A = some ⟨g, 0, none⟩ ∧ base ≤ g ∧ n + ys.length = c ∧ Blk w g (xs ++ ys) := h.2.2.2 hc
end

/-- Which block an append may have written. -/
def wrote (A : Option Addr) (c : Nat) : Option Nat := if c = 0 then none else A.map (·.block)

theorem below_grown {w w' : World} {base : Nat} {A : Option Addr} {n c : Nat} {xs : List UInt8} (h : Bo w base A n c xs) (hg : w.grownBy w' (wrote A c)) (hb : base ≤ w.heap.size) : Below base w w' := by
  refine ⟨hg.os, hg.tape, hg.output, hg.size, fun k hk => hg.block k (by omega) (fun e => ?_)⟩
  unfold wrote at e
  by_cases hc : c = 0
  · simp [hc] at e
  · rw [if_neg hc] at e
    obtain ⟨g, ys, rfl, hbg, _⟩ := h.2.2.2 (by omega)
    simp at e
    omega

theorem toArray3 (a b c : List Value) : (a ++ b ++ c).toArray = a.toArray ++ b.toArray ++ c.toArray := by simp

/-! ### append of bytes onto what is owned -/
section
variable {P : Program}
/-- The element type's row of the table, as a fact on the program. -/
structure ByteRow (P : Program) (t : TypeId) : Prop where
  under : P.underlying t = some (.slice 5)
  info : ∃ i, P.info? 5 = some i ∧ i.zero = some (.int .u8 0) ∧ i.size = 1 ∧ i.bytes = 1

theorem zeroCells_u8 (n : Nat) : Builtin.zeroCells (Value.int .u8 0).cells n = (bs (List.replicate n 0)).toArray := by
  apply Array.ext
  · simp [Builtin.zeroCells, Value.cells, bs]
  · intro i h1 h2
    have e : ([Value.int .u8 0] : List Value)[i % 1]? = some (.int .u8 0) := by rw [Nat.mod_one]; rfl
    simp [Builtin.zeroCells, Value.cells, bs]
    rw [e]; rfl

/-- make([]byte, N), N as the walk spells it. -/
theorem run_make_bytes {t : TypeId} (R : ByteRow P t) (N : Int) (m : Nat) (e : N = (m : Int)) (hm : m ≤ 281474976710656) (w : World) :
    (Instr.makeSlice t (.int .i64 N) (.int .i64 N)).run P w = .ok (.slice (some ⟨w.heap.size, 0, none⟩) m m) (w.alloc (.cells (bs (List.replicate m 0)).toArray 5)) := by
  obtain ⟨i, hi, hz, hs, hby⟩ := R.info
  subst e
  have hr := run_make (P := P) w t 5 i (.int .u8 0) R.under hi hz .i64 .i64 (m : Int) (m : Int) (by omega) (Int.le_refl _) (by rw [hby]; omega) (by omega)
  simp only [Int.toNat_natCast] at hr
  rw [hr, hs]
  congr 2
  have e2 : madeCells (Value.int .u8 0).cells (m * 1) = (bs (List.replicate m 0)).toArray := by
    apply Array.ext'
    rw [Nat.mul_one, show (Value.int .u8 0).cells = #[Value.int .u8 0] from rfl, toList_madeCells_one]
    simp [bs]
  rw [e2]

/-- What a growing append leaves. -/
theorem bo_grown (w : World) {base : Nat} (hb : base ≤ w.heap.size) (zs : List UInt8) (old : Nat) (hz : zs.length ≤ maxLen) :
    Bo (w.drew.alloc (.cells (bs zs ++ bs (List.replicate (grownCap w zs.length old 5 - zs.length) 0)).toArray 5)) base (some ⟨w.heap.size, 0, none⟩) zs.length (grownCap w zs.length old 5) zs := by
  have hge := grownCap_ge w zs.length old 5
  have hcm : grownCap w zs.length old 5 ≤ maxLen := grownCap_le_maxLen w zs.length old 5 hz
  refine ⟨rfl, hge, hcm, fun _ => ⟨w.heap.size, List.replicate (grownCap w zs.length old 5 - zs.length) 0, rfl, hb, by simp; omega, ?_⟩⟩
  rw [bs_append]
  exact heap_alloc_new w.drew _

theorem run_append_bytes {t : TypeId} (R : ByteRow P t) (w : World) (base : Nat) (ty : TypeId) {A A' : Option Addr} {n c m c' : Nat} {xs ys : List UInt8}
    (h : Bo w base A n c xs) (hr : Rd w A' m ys) (hlen : n + m ≤ 140737488355328) (hb : base ≤ w.heap.size) :
    ∃ A2 c2 w', (Builtin.append_ #[t, t] ty #[.slice A n c, .slice A' m c']).run P w = .ok (.slice A2 (n + m) c2) w' ∧ Bo w' base A2 (n + m) c2 (xs ++ ys) ∧ w.grownBy w' (wrote A c) ∧
      ((A2 = A ∧ c2 = c) ∨ A2 = some ⟨w.heap.size, 0, none⟩) := by
  obtain ⟨i, hi, hz, hs, hby⟩ := R.info
  have ht := R.under
  have hmax : n + m ≤ maxLen := by unfold maxLen; omega
  by_cases hm : m = 0
  · subst hm
    obtain rfl : ys = [] := List.eq_nil_of_length_eq_zero hr.1
    refine ⟨A, c, w, ?_, by simpa using h, World.grownBy.refl w _, .inl ⟨rfl, rfl⟩⟩
    have hle := h.2.1
    cases A with
    | none => cases A' <;> simp [Builtin.append_, run_underlying ht, sizeOf, typeInfo, hi, Builtin.lenOf, Builtin.firstCells, hle, loadCells, loadCellsFrom]
    | some a => cases A' <;> simp [Builtin.append_, run_underlying ht, sizeOf, typeInfo, hi, Builtin.lenOf, Builtin.firstCells, hle, loadCells, loadCellsFrom, storeCells]
  · obtain ⟨b', off', rfl, _⟩ := hr.2 (by omega)
    have hnews := hr.cells rfl
    have hl : (bs ys).length = m * i.size := by rw [bs_length, hr.1, hs]; omega
    by_cases hroom : n + m ≤ c
    · obtain ⟨g, zs, rfl, hbg, hzl, hh⟩ := h.2.2.2 (by omega)
      have hrun := run_append_room (P := P) w t ty 5 i ht hi g n c _ hh ⟨b', off', none⟩ m c' (bs ys) hl hnews (bs_oneCell ys) hroom (by simp [bs_length, hs, h.1, hr.1]; omega)
      refine ⟨_, _, _, hrun, ⟨by simp [h.1, hr.1], hroom, h.2.2.1, fun _ => ⟨g, zs.drop m, rfl, hbg, by simp; omega, ?_⟩⟩, ?_, .inl ⟨rfl, rfl⟩⟩
      · rw [setRow_heap w g _ _ 5 _ hh]
        have e1 : List.take (n * i.size) (bs (xs ++ zs)) = bs xs := by
          rw [hs, Nat.mul_one, bs_take, ← h.1, List.take_left]
        have e2 : List.drop (n * i.size + (bs ys).length) (bs (xs ++ zs)) = bs (zs.drop m) := by
          rw [hs, Nat.mul_one, bs_drop, bs_length, hr.1, ← h.1, List.drop_append, List.drop_eq_nil_of_le (by omega)]
          simp
        show some (Obj.cells (List.take _ (bs (xs ++ zs)) ++ _ ++ List.drop _ (bs (xs ++ zs))).toArray 5 (0, 0)) = _
        rw [e1, e2, bs_append, bs_append]
      · refine ⟨rfl, rfl, rfl, by simp, fun k _ hk => setRow_other w g k _ (fun e => hk ?_)⟩
        unfold wrote
        rw [if_neg (by omega), e]; rfl
    · have hfits : Builtin.nextslicecap (n + m) c * i.bytes ≤ 281474976710656 := growslice_fits (by omega) (by rw [hby]; omega)
      have hnl : (xs ++ ys).length = n + m := by simp [h.1, hr.1]
      have fin := bo_grown w hb (xs ++ ys) c (by rw [hnl]; exact hmax)
      rw [hnl] at fin
      have gr : ∀ o, w.grownBy (w.drew.alloc o) (wrote A c) := fun o => ⟨rfl, rfl, rfl, by simp, fun k hk _ => Below.heap_alloc w.drew o k hk⟩
      have shape : (bs (xs ++ ys) ++ bs (List.replicate (grownCap w (n + m) c 5 - (n + m)) 0)).toArray = (bs xs).toArray ++ (bs ys).toArray ++ Builtin.zeroCells (Value.int .u8 0).cells (grownCap w (n + m) c 5 - (n + m)) := by
        rw [zeroCells_u8, bs_append]; simp
      rw [shape] at fin
      cases A with
      | some a =>
        have hold : ∀ j u, (bs xs)[j]? = some u → w.cell? (a.add j) = some u := h.rd.cells rfl
        have hrun := run_append_grow (P := P) w t ty 5 i (.int .u8 0) ht hi hz a n c (bs xs) (by rw [bs_length, h.1, hs]; omega) hold ⟨b', off', none⟩ m c' (bs ys) hl hnews (by omega) (by omega) hfits
        exact ⟨_, _, _, hrun, fin, gr _, .inr rfl⟩
      | none =>
        have hc0 : c = 0 := by
          rcases Nat.eq_zero_or_pos c with h0 | h0
          · exact h0
          · obtain ⟨g, zs, e, _⟩ := h.2.2.2 h0
            cases e
        subst hc0
        have hn0 : n = 0 := by have := h.2.1; omega
        subst hn0
        obtain rfl : xs = [] := List.eq_nil_of_length_eq_zero h.1
        have hrun := run_append_nil (P := P) w t ty 5 i (.int .u8 0) ht hi hz ⟨b', off', none⟩ m c' (bs ys) hl hnews (by omega) (by omega) (by rw [hby]; omega)
        simp only [Nat.zero_add, List.nil_append] at fin hrun ⊢
        have e0 : (bs []).toArray = (#[] : Array Value) := rfl
        rw [e0, Array.empty_append] at fin
        exact ⟨_, _, _, hrun, fin, gr _, .inr rfl⟩

/-- 'append(s, make([]byte, k)...)': the builtin is handed the number. -/
theorem run_append_noughts {t tn : TypeId} (R : ByteRow P t) {kn kq : IntKind} (htn : P.underlying tn = some (.int kn)) (w : World) (base : Nat) (ty : TypeId) {A : Option Addr} {n c m : Nat} {xs : List UInt8}
    (h : Bo w base A n c xs) (hlen : n + m ≤ 140737488355328) (hb : base ≤ w.heap.size) :
    ∃ A2 c2 w', (Builtin.append_ #[t, tn] ty #[.slice A n c, .int kq (m : Int)]).run P w = .ok (.slice A2 (n + m) c2) w' ∧ Bo w' base A2 (n + m) c2 (xs ++ List.replicate m 0) ∧ w.grownBy w' (wrote A c) ∧
      ((A2 = A ∧ c2 = c) ∨ A2 = some ⟨w.heap.size, 0, none⟩) := by
  obtain ⟨i, hi, hz, hs, hby⟩ := R.info
  have ht := R.under
  have hmax : n + m ≤ maxLen := by unfold maxLen; omega
  have hw : IntKind.i64.wrap (m : Int) = m := by rw [IntKind.wrap_i64]; omega
  have hneg : ¬ ((m : Int) < 0) := by omega
  have h48 : ¬ (281474976710656 < (m : Int)) := by omega
  by_cases hroom : n + m ≤ c
  · by_cases hm : m = 0
    · subst hm
      refine ⟨A, c, w, ?_, by simpa using h, World.grownBy.refl w _, .inl ⟨rfl, rfl⟩⟩
      have hle := h.2.1
      have hw0 : IntKind.i64.wrap 0 = 0 := by rw [IntKind.wrap_i64]; omega
      cases A with
      | none => simp [Builtin.append_, run_underlying ht, run_underlying htn, sizeOf, typeInfo, hi, asInt, asIntOf, hle, hby, hw0]
      | some a => simp [Builtin.append_, run_underlying ht, run_underlying htn, sizeOf, typeInfo, hi, asInt, asIntOf, hle, hby, hw0, storeCells]
    · obtain ⟨g, zs, rfl, hbg, hzl, hh⟩ := h.2.2.2 (by omega)
      have hst := run_storeCells_at P g n 5 (bs (List.replicate m 0)) 0 _ w hh (by simp [bs_length, h.1]; omega) (bs_oneCell _)
      simp only [Nat.add_zero] at hst
      have hadd : (⟨g, 0, none⟩ : Addr).add n = ⟨g, n, none⟩ := by unfold Addr.add; split <;> simp_all
      refine ⟨some ⟨g, 0, none⟩, c, w.setRow g (List.take n (bs (xs ++ zs)) ++ bs (List.replicate m 0) ++ List.drop (n + (bs (List.replicate m 0)).length) (bs (xs ++ zs))).toArray, ?_, ⟨?_, hroom, h.2.2.1, fun _ => ⟨g, zs.drop m, rfl, hbg, by simp; omega, ?_⟩⟩, ?_, .inl ⟨rfl, rfl⟩⟩
      · simp [Builtin.append_, run_underlying ht, run_underlying htn, sizeOf, typeInfo, zeroValue, hi, hz, asInt, asIntOf, hw, hneg, hs, hby, h48, hm, hroom, hadd, zeroCells_u8]
        simp only [List.append_assoc] at hst
        rw [hst]; rfl
      · simp [h.1]
      · rw [setRow_heap w g _ _ 5 _ hh]
        have e1 : List.take n (bs (xs ++ zs)) = bs xs := by rw [bs_take, ← h.1, List.take_left]
        have e2 : List.drop (n + (bs (List.replicate m 0)).length) (bs (xs ++ zs)) = bs (zs.drop m) := by
          rw [bs_drop, bs_length, List.length_replicate, ← h.1, List.drop_append, List.drop_eq_nil_of_le (by omega)]
          simp
        show some (Obj.cells (List.take _ (bs (xs ++ zs)) ++ _ ++ List.drop _ (bs (xs ++ zs))).toArray 5 (0, 0)) = _
        rw [e1, e2, bs_append, bs_append]
      · refine ⟨rfl, rfl, rfl, by simp, fun k _ hk => setRow_other w g k _ (fun e => hk ?_)⟩
        unfold wrote
        rw [if_neg (by omega), e]; rfl
  · have hfits : Builtin.nextslicecap (n + m) c * i.bytes ≤ 281474976710656 := growslice_fits (by omega) (by rw [hby]; omega)
    have hm : 0 < m := by have := h.2.1; omega
    have hnl : (xs ++ List.replicate m 0).length = n + m := by simp [h.1]
    have fin := bo_grown w hb (xs ++ List.replicate m 0) c (by rw [hnl]; exact hmax)
    rw [hnl] at fin
    have shape : (bs (xs ++ List.replicate m 0) ++ bs (List.replicate (grownCap w (n + m) c 5 - (n + m)) 0)).toArray = (bs xs).toArray ++ Builtin.zeroCells (Value.int .u8 0).cells m ++ Builtin.zeroCells (Value.int .u8 0).cells (grownCap w (n + m) c 5 - (n + m)) := by
      rw [zeroCells_u8, zeroCells_u8, bs_append]; simp
    rw [shape] at fin
    have hold : (Builtin.firstCells i.size n (.slice A n c)).run P w.drew = .ok (bs xs).toArray w.drew := by
      cases A with
      | some a =>
        have := run_firstCells_some (P := P) w.drew i.size n a n c (bs xs) (by rw [bs_length, h.1, hs]; omega) (by simpa using h.rd.cells rfl)
        exact this
      | none =>
        have hc0 : c = 0 := by
          rcases Nat.eq_zero_or_pos c with h0 | h0
          · exact h0
          · obtain ⟨g, zs, e, _⟩ := h.2.2.2 h0
            cases e
        have hn0 : n = 0 := by have := h.2.1; omega
        subst hn0
        obtain rfl : xs = [] := List.eq_nil_of_length_eq_zero h.1
        simp [Builtin.firstCells, bs]
    have hrun := Lib.run_append_grow_zeros (P := P) w t tn ty 5 i (.int .u8 0) kq kn ht htn hi hz A n c (bs xs) hold m hm (by omega) (by omega) (by omega) (by rw [hby]; omega) hfits
    exact ⟨_, _, _, hrun, fin, ⟨rfl, rfl, rfl, by simp, fun k hk _ => Below.heap_alloc w.drew _ k hk⟩, .inr rfl⟩

/-! ### the same at the operation, for the walk -/
theorem wpList_bytes {t : TypeId} (R : ByteRow P t) (w : World) {ops : Array Oper} {rest : List Oper} {o : Oper} {a : Act} {Q : Exit → Act → World → Prop} (hgd : o.guard = none) (s x : Operand)
    (ho : o.op = .call { callee := .builtin .append, args := #[s, x], argTypes := #[t, t] }) (base : Nat) {A A' : Option Addr} {n c m c' : Nat} {xs ys : List UInt8}
    (hs : a.eval s = .slice A n c) (hx : a.eval x = .slice A' m c') (h : Bo w base A n c xs) (hr : Rd w A' m ys) (hlen : n + m ≤ 140737488355328) (hb : base ≤ w.heap.size)
    (hK : ∀ A2 c2 w', Bo w' base A2 (n + m) c2 (xs ++ ys) → w.grownBy w' (wrote A c) → ((A2 = A ∧ c2 = c) ∨ A2 = some ⟨w.heap.size, 0, none⟩) → wpList P ops Q rest (a.put o.dst (.slice A2 (n + m) c2)) w') :
    wpList P ops Q (o :: rest) a w := by
  refine wpList_plain hgd fun K hK' => ?_
  obtain ⟨A2, c2, w', hrun, h1, h2, h3⟩ := run_append_bytes R w base o.type (c' := c') h hr hlen hb
  unfold Oper.wp execOp
  simp only [ho, resolve, invoke, builtin, Sem.run_bind, Sem.run_pure, Result.andThen_ok, List.map_toArray, List.map_cons, List.map_nil, hs, hx, hrun]
  exact hK' _ _ (hK A2 c2 w' h1 h2 h3)

theorem wpList_noughts {t tn : TypeId} (R : ByteRow P t) {kn kq : IntKind} (htn : P.underlying tn = some (.int kn)) (w : World) {ops : Array Oper} {rest : List Oper} {o : Oper} {a : Act} {Q : Exit → Act → World → Prop} (hgd : o.guard = none) (s x : Operand)
    (ho : o.op = .call { callee := .builtin .append, args := #[s, x], argTypes := #[t, tn] }) (base : Nat) {A : Option Addr} {n c m : Nat} {xs : List UInt8}
    (hs : a.eval s = .slice A n c) (hx : a.eval x = .int kq (m : Int)) (h : Bo w base A n c xs) (hlen : n + m ≤ 140737488355328) (hb : base ≤ w.heap.size)
    (hK : ∀ A2 c2 w', Bo w' base A2 (n + m) c2 (xs ++ List.replicate m 0) → w.grownBy w' (wrote A c) → ((A2 = A ∧ c2 = c) ∨ A2 = some ⟨w.heap.size, 0, none⟩) → wpList P ops Q rest (a.put o.dst (.slice A2 (n + m) c2)) w') :
    wpList P ops Q (o :: rest) a w := by
  refine wpList_plain hgd fun K hK' => ?_
  obtain ⟨A2, c2, w', hrun, h1, h2, h3⟩ := run_append_noughts R htn (kq := kq) w base o.type h hlen hb
  unfold Oper.wp execOp
  simp only [ho, resolve, invoke, builtin, Sem.run_bind, Sem.run_pure, Result.andThen_ok, List.map_toArray, List.map_cons, List.map_nil, hs, hx, hrun]
  exact hK' _ _ (hK A2 c2 w' h1 h2 h3)
end

#print axioms wpList_bytes
#print axioms wpList_noughts
end Go.Proofs.Ythndlhflkbidiaa
