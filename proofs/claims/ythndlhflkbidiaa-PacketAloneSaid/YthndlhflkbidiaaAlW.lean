/- PacketAlone's rows: chunks of given kinds, with short bodies. -/
import Derived.Test.YthndlhflkbidiaaFitR
import Derived.Test.YthndlhflkbidiaaPkMore
namespace Go.Proofs.Ythndlhflkbidiaa
open Go Go.RowKit

def alC (xs : List UInt8) (i : Nat) : Ck := ⟨xs.getD i 0, 0, List.replicate (i % 9) 0⟩
def alCs (xs : List UInt8) (k : Nat) : List Ck := (List.range k).map (alC xs)
def alK (x : UInt8) : Bool := x == 1 || x == 2 || x == 14
def alN (xs : List UInt8) : Nat → Nat
  | 0 => 0
  | k + 1 => alN xs k + (if alK (xs.getD k 0) = true then 1 else 0)
theorem alCs_succ (xs : List UInt8) (k : Nat) : alCs xs (k + 1) = alCs xs k ++ [alC xs k] := by
  unfold alCs
  rw [List.range_succ, List.map_append]
  rfl
theorem alCs_length (xs : List UInt8) (k : Nat) : (alCs xs k).length = k := by simp [alCs]
theorem alN_le (xs : List UInt8) (k : Nat) : alN xs k ≤ k := by
  induction k with
  | zero => simp [alN]
  | succ k ih => rw [alN]; split <;> omega
theorem alN_any (xs : List UInt8) (k : Nat) : (alN xs k = 0) ↔ (alCs xs k).any aloneK = false := by
  induction k with
  | zero => simp [alN, alCs]
  | succ k ih =>
    have e : aloneK (alC xs k) = alK (xs.getD k 0) := rfl
    rw [alCs_succ, List.any_append, alN, List.any_cons, List.any_nil, Bool.or_false, Bool.or_eq_false_iff, ← ih, e]
    cases alK (xs.getD k 0) <;> simp
theorem alC_len (xs : List UInt8) (i : Nat) : (alC xs i).xs.length ≤ 8 := by
  unfold alC
  simp
  omega
theorem alCs_mem {xs : List UInt8} {k : Nat} : ∀ c ∈ alCs xs k, c.xs.length ≤ 8 := by
  intro c hc
  unfold alCs at hc
  obtain ⟨i, _, rfl⟩ := List.mem_map.1 hc
  exact alC_len xs i
theorem may_small (cs : List Ck) (h : ∀ c ∈ cs, c.xs.length ≤ 8) : mayB cs = (decide (0 < cs.length) && (!cs.any aloneK || decide (cs.length ≤ 1))) := by
  unfold mayB
  congr 1
  have e : cs.any (wrongC cs.length) = (cs.any aloneK && decide (1 < cs.length)) := by
    rw [Bool.eq_iff_iff]
    simp only [List.any_eq_true, Bool.and_eq_true, decide_eq_true_eq]
    constructor
    · rintro ⟨c, hc, hw⟩
      have h8 := h c hc
      unfold wrongC at hw
      simp only [Bool.or_eq_true, decide_eq_true_eq, Bool.and_eq_true] at hw
      rcases hw with hw | hw
      · omega
      · exact ⟨⟨c, hc, hw.1⟩, hw.2⟩
    · rintro ⟨⟨c, hc, ha⟩, hl⟩
      exact ⟨c, hc, by unfold wrongC; simp [ha, hl]⟩
  rw [e]
  by_cases hl : 1 < cs.length
  · simp [hl, show ¬ cs.length ≤ 1 by omega]
  · simp [hl, show cs.length ≤ 1 by omega]
theorem al_may (xs : List UInt8) (k : Nat) : mayB (alCs xs k) = (decide (0 < k) && (decide (alN xs k = 0) || decide (k = 1))) := by
  rw [may_small _ alCs_mem, alCs_length]
  have e : decide (alN xs k = 0) = !(alCs xs k).any aloneK := by
    rw [Bool.eq_iff_iff]
    simp [alN_any]
  rw [e]
  rcases Nat.lt_or_ge 1 k with h | h
  · simp [show ¬ k ≤ 1 by omega, show ¬ k = 1 by omega]
  · rcases (show k = 0 ∨ k = 1 by omega) with rfl | rfl <;> simp
theorem al_fits (xs : List UInt8) (k : Nat) (x : UInt8) (hk : k ≤ 100) : fitsB (alCs xs k) ⟨x, 0, []⟩ 1048576 = (decide (alN xs k + (if alK x = true then 1 else 0) = 0) || decide (k = 0)) ∧
    mayB (alCs xs k ++ [⟨x, 0, []⟩]) = (decide (alN xs k + (if alK x = true then 1 else 0) = 0) || decide (k = 0)) := by
  have hm : ∀ c ∈ alCs xs k ++ [(⟨x, 0, []⟩ : Ck)], c.xs.length ≤ 8 := fun c hc => by
    rcases List.mem_append.1 hc with hc | hc
    · exact alCs_mem c hc
    · obtain rfl : c = ⟨x, 0, []⟩ := by simpa using hc
      simp
  have e1 : mayB (alCs xs k ++ [⟨x, 0, []⟩]) = (decide (alN xs k + (if alK x = true then 1 else 0) = 0) || decide (k = 0)) := by
    rw [may_small _ hm, List.length_append, alCs_length, List.any_append, List.any_cons, List.any_nil, Bool.or_false]
    have e : aloneK (⟨x, 0, []⟩ : Ck) = alK x := rfl
    rw [e]
    have e2 : decide (alN xs k + (if alK x = true then 1 else 0) = 0) = !((alCs xs k).any aloneK || alK x) := by
      rw [Bool.eq_iff_iff]
      simp only [decide_eq_true_eq, Bool.not_eq_true', Bool.or_eq_false_iff, ← alN_any]
      cases alK x <;> simp
    rw [e2]
    simp
  refine ⟨?_, e1⟩
  unfold fitsB
  rw [e1]
  have hs : sizeB (alCs xs k) + ckN (⟨x, 0, []⟩ : Ck) ≤ 1048576 := by
    have h1 := sum_le ckN 16 (cs := alCs xs k) (fun c hc => by have h2 := alCs_mem c hc; have h3 := up_le c.xs.length; unfold ckN; unfold up at *; omega)
    rw [alCs_length] at h1
    have h2 : ckN (⟨x, 0, []⟩ : Ck) = 4 := by simp [ckN, up]
    unfold sizeB
    omega
  have hs' : decide (((sizeB (alCs xs k) + ckN (⟨x, 0, []⟩ : Ck) : Nat) : Int) ≤ 1048576) = true := decide_eq_true (by omega)
  rw [hs', Bool.and_true]

/-- How far the packet is. -/
structure AlI (w wr : World) (xs : List UInt8) (k : Nat) (v : Value) (ps : List Cp) : Prop where
  below : Below w.heap.size w wr
  box : wr.heap[w.heap.size]? = some (.cells #[.int .u32 1, v] 43 (0, 0))
  own : OwnC wr (w.heap.size + 1) v ps
  map : ps.map (·.c) = alCs xs k
  bod : Owned wr w.heap.size ps

theorem AlI.step {w wr W3 w4 : World} {xs : List UInt8} {k : Nat} {v v' : Value} {ps : List Cp} (h : AlI w wr xs k v ps) (hb : Below wr.heap.size wr W3) {p : Cp}
    (hp : Bo W3 w.heap.size p.A p.c.xs.length p.cap p.c.xs) (hm : p.c = alC xs k) (hown : OwnC w4 (w.heap.size + 1) v' (ps ++ [p])) (hg : W3.grownBy w4 v.ownBlock) :
    AlI w (w4.setCell ⟨w.heap.size, 1, none⟩ v') xs (k + 1) v' (ps ++ [p]) := by
  have ho := h.own.below hb
  have k1 := KC.row hg
  have hno : ∀ g cs t, W3.heap[g]? = some (.cells cs t (0, 0)) → t ≠ 45 → ¬ v.ownBlock = some g := fun g cs t hh ht e => by
    obtain ⟨_, cs', hh'⟩ := ho.block e
    rw [hh] at hh'
    simp at hh'
    exact ht hh'.2
  have e0 := stays h.box hb
  have e4 := k1.same _ _ _ _ e0 (hno _ _ _ e0 (by decide))
  have hB3 : Owned W3 w.heap.size ps := h.bod.kc (E := fun _ => False) (KC.of_below hb) (fun _ _ _ => id)
  have hB4 : Owned w4 w.heap.size (ps ++ [p]) := (hB3.snoc hp).kc k1 (fun g cs hh => hno g cs _ hh (by decide))
  have k2 := KC.setCell w4 ⟨w.heap.size, 1, none⟩ v'
  have hE : ∀ g cs t, w4.heap[g]? = some (.cells cs t (0, 0)) → t ≠ 43 → ¬ g = w.heap.size := by
    rintro g cs t hg2 h4 rfl
    rw [e4] at hg2
    simp at hg2
    exact h4 hg2.2.symm
  have b4 : Below w.heap.size w w4 := (h.below.trans (hb.mono h.below.size)).grown hg (Nat.le_trans h.below.size hb.size) (fun g e => by have := (ho.block e).1; omega)
  refine ⟨b4.setCell (p := ⟨w.heap.size, 1, none⟩) (Nat.le_refl _) v', ?_, hown.kc k2 (fun g cs hh => hE g cs _ hh (by decide)), by rw [List.map_append, h.map, alCs_succ, ← hm]; rfl, hB4.kc k2 (fun g cs hh => hE g cs _ hh (by decide))⟩
  have := heap_setCell_same w4 w.heap.size 1 _ 43 v' e4
  exact this

theorem alK_iff (xs : List UInt8) (k : Nat) : alK (xs.getD k 0) = true ↔ gb xs k = 1 ∨ gb xs k = 2 ∨ gb xs k = 14 := by
  unfold alK gb
  simp [← UInt8.toNat_inj]
  omega
/-- What a round's append and store leave. -/
theorem AlI.append {w wr w4 : World} {xs : List UInt8} {ps : List Cp} {Av : Option Addr} {cv gg cap : Nat} (h : AlI w wr xs ps.length (.slice Av ps.length cv) ps)
    (hg4 : ((wr.alloc (.cells (bs (List.replicate (ps.length % 9) 0)).toArray 5)).alloc (.cells #[.int .u8 (gb xs ps.length : Int), .int .u8 0, .slice (some ⟨wr.heap.size, 0, none⟩) (ps.length % 9) (ps.length % 9)] 45)).drew.grownBy w4 (Value.slice Av ps.length cv).ownBlock)
    (hown4 : w4.ownsRow (w.heap.size + 1) 45 3 (.slice (some ⟨gg, 0, none⟩) (ps.length + 1) cap) (ps.length + 1) (rowsV ps ++ [.int .u8 (gb xs ps.length : Int), .int .u8 0, .slice (some ⟨wr.heap.size, 0, none⟩) (ps.length % 9) (ps.length % 9)])) :
    ∃ v' ps', AlI w (w4.setCell ⟨w.heap.size, 1, none⟩ (.slice (some ⟨gg, 0, none⟩) (ps.length + 1) cap)) xs (ps.length + 1) v' ps' := by
  have hlen : (alC xs ps.length).xs.length = ps.length % 9 := by simp [alC]
  have hbX : Below wr.heap.size wr ((wr.alloc (.cells (bs (List.replicate (ps.length % 9) 0)).toArray 5)).alloc (.cells #[.int .u8 (gb xs ps.length : Int), .int .u8 0, .slice (some ⟨wr.heap.size, 0, none⟩) (ps.length % 9) (ps.length % 9)] 45)).drew := (((Below.refl _ _).alloc (Nat.le_refl _) _).alloc (by simp) _).drew
  have hblk := (Blk.new wr (List.replicate (ps.length % 9) 0)).alloc (.cells #[.int .u8 (gb xs ps.length : Int), .int .u8 0, .slice (some ⟨wr.heap.size, 0, none⟩) (ps.length % 9) (ps.length % 9)] 45)
  have hbo := Blk.bo (xs := List.replicate (ps.length % 9) 0) (ys := []) (base := w.heap.size) (n := ps.length % 9) (c := ps.length % 9) (by simpa using hblk) h.below.size (by simp) (by simp) (by unfold maxLen; omega)
  have hp : Bo ((wr.alloc (.cells (bs (List.replicate (ps.length % 9) 0)).toArray 5)).alloc (.cells #[.int .u8 (gb xs ps.length : Int), .int .u8 0, .slice (some ⟨wr.heap.size, 0, none⟩) (ps.length % 9) (ps.length % 9)] 45)).drew w.heap.size (some ⟨wr.heap.size, 0, none⟩) (alC xs ps.length).xs.length (ps.length % 9) (alC xs ps.length).xs := by
    rw [hlen]
    exact hbo
  have ho : OwnC w4 (w.heap.size + 1) (.slice (some ⟨gg, 0, none⟩) (ps.length + 1) cap) (ps ++ [⟨alC xs ps.length, some ⟨wr.heap.size, 0, none⟩, ps.length % 9⟩]) := by
    have e : rowsV (ps ++ [(⟨alC xs ps.length, some ⟨wr.heap.size, 0, none⟩, ps.length % 9⟩ : Cp)]) = rowsV ps ++ [.int .u8 (gb xs ps.length : Int), .int .u8 0, .slice (some ⟨wr.heap.size, 0, none⟩) (ps.length % 9) (ps.length % 9)] := by
      rw [rowsV_append, rowsV_one]
      unfold Cp.vals
      simp only [hlen]
      rfl
    unfold OwnC
    rw [List.length_append, e]
    exact hown4
  exact ⟨_, _, h.step (p := ⟨alC xs ps.length, some ⟨wr.heap.size, 0, none⟩, ps.length % 9⟩) hbX hp rfl ho hg4⟩
/-- The chunk more: what its append and store leave. -/
theorem AlI.last {w wr W3 w4 : World} {xs : List UInt8} {k c : Nat} {v : Value} {A : Option Addr} {ps : List Cp} (h : AlI w wr xs k v ps) (hb : Below wr.heap.size wr W3) {ck : Ck} (hx : ck.xs = [])
    (hown : OwnC w4 (w.heap.size + 1) (.slice A (k + 1) c) (ps ++ [⟨ck, none, 0⟩])) (hg : W3.grownBy w4 v.ownBlock) :
    w4.heap[w.heap.size]? = some (.cells #[.int .u32 1, v] 43 (0, 0)) ∧
    (w4.setCell ⟨w.heap.size, 1, none⟩ (.slice A (k + 1) c)).heap[w.heap.size]? = some (.cells #[.int .u32 1, .slice A (k + 1) c] 43 (0, 0)) ∧
    Cks (w4.setCell ⟨w.heap.size, 1, none⟩ (.slice A (k + 1) c)) A (k + 1) (alCs xs k ++ [ck]) ∧ Below w.heap.size w (w4.setCell ⟨w.heap.size, 1, none⟩ (.slice A (k + 1) c)) := by
  have ho := h.own.below hb
  have k1 := KC.row hg
  have hno : ∀ g cs t, W3.heap[g]? = some (.cells cs t (0, 0)) → t ≠ 45 → ¬ v.ownBlock = some g := fun g cs t hh ht e => by
    obtain ⟨_, cs', hh'⟩ := ho.block e
    rw [hh] at hh'
    simp at hh'
    exact ht hh'.2
  have e0 := stays h.box hb
  have e4 := k1.same _ _ _ _ e0 (hno _ _ _ e0 (by decide))
  have hB3 : Owned W3 w.heap.size ps := h.bod.kc (E := fun _ => False) (KC.of_below hb) (fun _ _ _ => id)
  have hp : Bo W3 w.heap.size (⟨ck, none, 0⟩ : Cp).A (⟨ck, none, 0⟩ : Cp).c.xs.length (⟨ck, none, 0⟩ : Cp).cap (⟨ck, none, 0⟩ : Cp).c.xs := by
    simp only [hx]
    exact Bo.nil _ _ _
  have hB4 : Owned w4 w.heap.size (ps ++ [⟨ck, none, 0⟩]) := (hB3.snoc hp).kc k1 (fun g cs hh => hno g cs _ hh (by decide))
  have k2 := KC.setCell w4 ⟨w.heap.size, 1, none⟩ (.slice A (k + 1) c)
  have hE : ∀ g cs t, w4.heap[g]? = some (.cells cs t (0, 0)) → t ≠ 43 → ¬ g = w.heap.size := by
    rintro g cs t hg2 h4 rfl
    rw [e4] at hg2
    simp at hg2
    exact h4 hg2.2.symm
  have b4 : Below w.heap.size w w4 := (h.below.trans (hb.mono h.below.size)).grown hg (Nat.le_trans h.below.size hb.size) (fun g e => by have := (ho.block e).1; omega)
  have ho2 := hown.kc k2 (fun g cs hh => hE g cs _ hh (by decide))
  have hB5 := hB4.kc k2 (fun g cs hh => hE g cs _ hh (by decide))
  have hc := ho2.cks hB5.ok
  have hm : (ps ++ [(⟨ck, none, 0⟩ : Cp)]).map (·.c) = alCs xs k ++ [ck] := by rw [List.map_append, h.map]; rfl
  rw [hm, ← hc.1] at hc
  exact ⟨e4, heap_setCell_same w4 w.heap.size 1 _ 43 _ e4, hc.2, b4.setCell (p := ⟨w.heap.size, 1, none⟩) (Nat.le_refl _) _⟩
theorem al_len (t : Nat) (cs : List Ck) (mv : Bool) (h : mayB cs = mv) : (mv = false → (pkB t cs).length = 0) ∧ (mv = true → 0 < (pkB t cs).length) := by
  constructor
  · rintro rfl
    rw [pkB_nil h]
    rfl
  · rintro rfl
    rw [pkB_length h]
    unfold sizeB
    omega
end Go.Proofs.Ythndlhflkbidiaa
