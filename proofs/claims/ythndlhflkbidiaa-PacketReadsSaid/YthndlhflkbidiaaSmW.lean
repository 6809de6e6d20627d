/- Same of two packets that hold the same. -/
import Derived.Test.YthndlhflkbidiaaPkW
import Derived.Deep.DeepCutAuto
import Derived.Deep.RegionHeld3
namespace Go.Proofs.Ythndlhflkbidiaa
open Go.RowKit

theorem two43_heap (w : World) (x y a b : Value) :
    ((w.alloc (.cells #[x, y] 43)).alloc (.cells #[a, b] 43)).heap[w.heap.size]? = some (.cells #[x, y] 43 (0, 0)) ∧
    ((w.alloc (.cells #[x, y] 43)).alloc (.cells #[a, b] 43)).heap[w.heap.size + 1]? = some (.cells #[a, b] 43 (0, 0)) := by
  constructor
  · rw [Below.heap_alloc _ _ _ (by simp)]
    exact heap_alloc_new w _
  · have := heap_alloc_new (w.alloc (.cells #[x, y] 43)) (.cells #[a, b] 43)
    simpa using this

set_option maxRecDepth 100000 in
set_option maxHeartbeats 1600000 in
theorem same10_any (t : Int) (A B : Option Addr) (n c d : Nat) (cs : List Ck) (w : World) (hx : Cks w A n cs) (hy : Cks w B n cs) (hn : n ≤ 9223372036854775807) (hl : ∀ c ∈ cs, c.xs.length ≤ 9223372036854775807) :
    Calls Try.prog 58 #[.agg #[.int .u32 t, .slice A n c], .agg #[.int .u32 t, .slice B n d]] w fun e w' => e = .returned (.bool true) ∧ Below w.heap.size w w' := by
  have HL := Lib.hid hx.len
  have HS := Lib.hid hl
  have t0 : Below w.heap.size w ((w.alloc (.cells #[.int .u32 t, .slice A n c] 43)).alloc (.cells #[.int .u32 t, .slice B n d] 43)) := ((Below.refl _ _).alloc (Nat.le_refl _) _).alloc (by simp) _
  have hh := two43_heap w (.int .u32 t) (.slice A n c) (.int .u32 t) (.slice B n d)
  clear hl
  go_enter Try.func58, Try.ntmps58
  go_wp2
  go_loopw [5] (fun i wr => ∃ k : Nat, k ≤ n ∧ i = .int .i64 k ∧ Below w.heap.size w wr ∧ wr.heap[w.heap.size]? = some (.cells #[.int .u32 t, .slice A n c] 43 (0, 0)) ∧ wr.heap[w.heap.size + 1]? = some (.cells #[.int .u32 t, .slice B n d] 43 (0, 0))) (fun i _ => n - (intOf i).toNat)
  case atStart => exact ⟨0, by omega, rfl, t0, hh.1, hh.2⟩
  case round =>
    clear t0 hh
    obtain ⟨k, hk, rfl, hb, b0, b1⟩ := hrel
    have q0 := fun i => cell_of_row wr w.heap.size i _ 43 (0, 0) b0
    have q1 := fun i => cell_of_row wr (w.heap.size + 1) i _ 43 (0, 0) b1
    by_cases hlt : k < n
    · have hlt' : (k : Int) < n := by omega
      have hkl : k < cs.length := by rw [HL.out]; exact hlt
      obtain ⟨g, off, rfl, A1, n1, c1, k0, k1, k2, hr1, hn1, hc1⟩ := (hx.below hb).form hlt
      obtain ⟨g', off', rfl, A2, n2, c2, j0, j1, j2, hr2, hn2, hc2⟩ := (hy.below hb).form hlt
      obtain ⟨ck, hck⟩ : ∃ ck, ck = cs[k]'hkl := ⟨_, rfl⟩
      rw [← hck] at k0 k1 j0 j1 hr1 hr2
      have hl1 := HS.out ck (by rw [hck]; exact List.getElem_mem _)
      have HN1 := Lib.hid hr1.len
      clear hck
      have eqT : ((ck.k.toNat : Int) == (ck.k.toNat : Int) && (ck.f.toNat : Int) == (ck.f.toNat : Int) && eqB ck.xs ck.xs) = true := by simp [eqB]
      have EQ := Lib.hid eqT
      have hr1d : Rd wr.drew A1 n1 ck.xs := hr1
      have hr2d : Rd wr.drew A2 n2 ck.xs := hr2
      have hgl := World.block_lt_of_cell? _ _ k0
      have hgl' := World.block_lt_of_cell? _ _ j0
      have s0 : wr.cell? ⟨w.heap.size, 1, none⟩ = some (.slice (some ⟨g, off, none⟩) n c) := (q0 1).trans rfl
      have s1 : wr.cell? ⟨w.heap.size + 1, 1, none⟩ = some (.slice (some ⟨g', off', none⟩) n d) := (q1 1).trans rfl
      clear eqT
      go_upto_region 6 with fail
      go_cut [38] (fun x wx => x = .bool false ∧ Below wr.heap.size wr wx)
      case first =>
        go_region_held3 (fun w' => w'.cell? ⟨w.heap.size, 1, none⟩ = some (.slice (some ⟨g, off, none⟩) n c) ∧ w'.cell? ⟨w.heap.size + 1, 1, none⟩ = some (.slice (some ⟨g', off', none⟩) n d) ∧
            w'.cell? ⟨g, off + k * 3, none⟩ = some (.int .u8 (ck.k.toNat : Int)) ∧ w'.cell? ⟨g, off + k * 3 + 1, none⟩ = some (.int .u8 (ck.f.toNat : Int)) ∧ w'.cell? ⟨g, off + k * 3 + 2, none⟩ = some (.slice A1 n1 c1) ∧
            w'.cell? ⟨g', off' + k * 3, none⟩ = some (.int .u8 (ck.k.toNat : Int)) ∧ w'.cell? ⟨g', off' + k * 3 + 1, none⟩ = some (.int .u8 (ck.f.toNat : Int)) ∧ w'.cell? ⟨g', off' + k * 3 + 2, none⟩ = some (.slice A2 n2 c2))
          (first | go_keep | (go_show; fail))
          (first
            | (go_at_call 53; refine (same_any _ _ _ _ _ _ _ _ _ _ ck.xs ck.xs _ hr1d hr2d (by rw [← HN1.out]; exact hl1)).mono ?_; rintro e w3 ⟨rfl, hb3⟩; rw [EQ.out]; have u0 := (hb3.cell (p := ⟨w.heap.size, 1, none⟩) (lt_of_block b0)).trans s0; have u1 := (hb3.cell (p := ⟨w.heap.size + 1, 1, none⟩) (lt_of_block b1)).trans s1; have r0 := (hb3.cell (p := ⟨g, off + k * 3, none⟩) hgl).trans k0; have r1 := (hb3.cell (p := ⟨g, off + k * 3 + 1, none⟩) hgl).trans k1; have r2 := (hb3.cell (p := ⟨g, off + k * 3 + 2, none⟩) hgl).trans k2; have v0 := (hb3.cell (p := ⟨g', off' + k * 3, none⟩) hgl').trans j0; have v1 := (hb3.cell (p := ⟨g', off' + k * 3 + 1, none⟩) hgl').trans j1; have v2 := (hb3.cell (p := ⟨g', off' + k * 3 + 2, none⟩) hgl').trans j2))
        all_goals (
          go_wp2_with fail
          go_meet
          exact ⟨rfl, ((Below.refl _ _).drew).trans hb3⟩)
      case rest =>
        obtain ⟨rfl, hb3⟩ := hcut
        go_wp2
        go_roundw
        case rel => exact ⟨k + 1, by omega, by go_num, hb.trans (hb3.mono hb.size), stays b0 hb3, stays b1 hb3⟩
        case measure => simp [intOf]; omega
    · obtain rfl : n = k := by omega
      go_wp2
      go_ret
      exact ⟨rfl, hb⟩
end Go.Proofs.Ythndlhflkbidiaa
