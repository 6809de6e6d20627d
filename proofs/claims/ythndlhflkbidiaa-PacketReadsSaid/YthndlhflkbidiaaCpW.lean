/- Copy of a packet: the same in new memory. -/
import Derived.Test.YthndlhflkbidiaaPkRdI
import Derived.Test.YthndlhflkbidiaaSmW
import Derived.Deep.AppendLies
namespace Go.Proofs.Ythndlhflkbidiaa
open Go Go.RowKit

theorem info43' : (Try.prog.info? 43).map (·.size) = some 2 := by kernel_rfl
theorem res54 {W : World} {tmps : Array Value} {g : Nat} {a b : Value} (t2 : tmps.getD 2 undef = .pointer (some ⟨g, 0, none⟩))
    (h1 : W.heap[g]? = some (.cells #[a, b] 43 (0, 0))) : (results Try.f54 tmps).run Try.prog W = .ok (.agg #[a, b]) W := by
  have t2' : tmps[2]?.getD undef = .pointer (some ⟨g, 0, none⟩) := by simpa using t2
  have e1 := run_loadVar_row (P := Try.prog) W g 43 43 #[a, b] (0, 0) _ h1 Try.underlying43 rfl info43'
  simp [results, t2', asAddr, e1]
/-- Bodies in new memory. -/
def Owned (w : World) (base : Nat) (ps : List Cp) : Prop := ∀ p ∈ ps, Bo w base p.A p.c.xs.length p.cap p.c.xs
theorem Owned.ok {w : World} {base : Nat} {ps : List Cp} (h : Owned w base ps) : ∀ p ∈ ps, BodyOk w p := fun p hp => by
  have hb := h p hp
  exact ⟨hb.rd, hb.2.1, by have := hb.2.2.1; unfold maxLen at this; omega⟩
theorem Owned.kc {E : Nat → Prop} {W W' : World} {base : Nat} {ps : List Cp} (h : Owned W base ps) (k : KC E W W') (hE : ∀ g cs, W.heap[g]? = some (.cells cs 5 (0, 0)) → ¬ E g) : Owned W' base ps := fun p hp => (h p hp).kc k hE
theorem Owned.snoc {w : World} {base : Nat} {ps : List Cp} {p : Cp} (h : Owned w base ps) (hp : Bo w base p.A p.c.xs.length p.cap p.c.xs) : Owned w base (ps ++ [p]) := fun q hq => by
  rcases List.mem_append.1 hq with hq | hq
  · exact h q hq
  · obtain rfl : q = p := by simpa using hq
    exact hp

/-- How far the copy is. -/
structure CpI (w wr : World) (t : Nat) (A : Option Addr) (n c : Nat) (cs : List Ck) (k : Nat) (v : Value) (ps : List Cp) : Prop where
  below : Below w.heap.size w wr
  b0 : wr.heap[w.heap.size]? = some (.cells #[.int .u32 (t : Int), .slice A n c] 43 (0, 0))
  b1 : wr.heap[w.heap.size + 1]? = some (.cells #[.int .u32 0, .slice none 0 0] 43 (0, 0))
  own : OwnC wr (w.heap.size + 2) v ps
  map : ps.map (·.c) = cs.take k
  bod : Owned wr w.heap.size ps

theorem CpI.step {w wr W3 w4 : World} {t : Nat} {A : Option Addr} {n c k : Nat} {cs : List Ck} {v v' : Value} {ps : List Cp} (h : CpI w wr t A n c cs k v ps) (hb : Below wr.heap.size wr W3) {p : Cp}
    (hp : Bo W3 w.heap.size p.A p.c.xs.length p.cap p.c.xs) (hm : (ps ++ [p]).map (·.c) = cs.take (k + 1)) (hown : OwnC w4 (w.heap.size + 2) v' (ps ++ [p])) (hg : W3.grownBy w4 v.ownBlock) : CpI w w4 t A n c cs (k + 1) v' (ps ++ [p]) := by
  have ho := h.own.below hb
  have k1 := KC.row hg
  have hno : ∀ g cs t, W3.heap[g]? = some (.cells cs t (0, 0)) → t ≠ 45 → ¬ v.ownBlock = some g := fun g cs t hh ht e => by
    obtain ⟨_, cs', hh'⟩ := ho.block e
    rw [hh] at hh'
    simp at hh'
    exact ht hh'.2
  have e0 := stays h.b0 hb
  have e1 := stays h.b1 hb
  have hB3 : Owned W3 w.heap.size ps := h.bod.kc (E := fun _ => False) (KC.of_below hb) (fun _ _ _ => id)
  refine ⟨(h.below.trans (hb.mono h.below.size)).grown hg (Nat.le_trans h.below.size hb.size) (fun g e => ?_), k1.same _ _ _ _ e0 (hno _ _ _ e0 (by decide)), k1.same _ _ _ _ e1 (hno _ _ _ e1 (by decide)), hown, hm, ?_⟩
  · have := (ho.block e).1
    omega
  · exact (hB3.snoc hp).kc k1 (fun g cs hh => hno g cs _ hh (by decide))

set_option maxRecDepth 100000 in
set_option maxHeartbeats 1600000 in
theorem copy10_any (t : Nat) (A : Option Addr) (n c : Nat) (cs : List Ck) (w : World) (hx : Cks w A n cs) (hn : n ≤ 1000) (hl : ∀ c ∈ cs, c.xs.length ≤ 1000000) :
    Calls Try.prog 54 #[.agg #[.int .u32 (t : Int), .slice A n c]] w fun e w' => ∃ A' c', e = .returned (.agg #[.int .u32 (t : Int), .slice A' n c']) ∧ Cks w' A' n cs ∧ n ≤ c' ∧ c' ≤ 9223372036854775807 ∧ Below w.heap.size w w' := by
  have HL := Lib.hid hx.len
  have HS := Lib.hid hl
  obtain ⟨i0, hi0, hz0, hz1, hz2⟩ := info_parts info45'
  have hh := two43_heap w (.int .u32 (t : Int)) (.slice A n c) (.int .u32 0) (.slice none 0 0)
  have t0 : Below w.heap.size w ((w.alloc (.cells #[.int .u32 (t : Int), .slice A n c] 43)).alloc (.cells #[.int .u32 0, .slice none 0 0] 43)) := ((Below.refl _ _).alloc (Nat.le_refl _) _).alloc (by simp) _
  clear hl
  go_enter Try.func54, Try.ntmps54
  go_wp2
  go_loopw [3, 4] (fun v i wr => ∃ (k : Nat) (ps : List Cp), k ≤ n ∧ i = .int .i64 k ∧ CpI w wr t A n c cs k v ps) (fun _ i _ => n - (intOf i).toNat)
  case atStart => exact ⟨0, [], by omega, rfl, t0, hh.1, hh.2, ownC_nil _ _, rfl, fun p hp => absurd hp (by simp)⟩
  case round =>
    clear t0 hh
    obtain ⟨k, ps, hk, rfl, hI⟩ := hrel
    obtain ⟨Av, cv, rfl, hvc, hvm⟩ := hI.own.form
    have hpl : ps.length = k := by
      have := congrArg List.length hI.map
      rw [List.length_map, List.length_take, HL.out] at this
      omega
    subst hpl
    have hb := hI.below
    have q0 := fun i => cell_of_row wr w.heap.size i _ 43 (0, 0) hI.b0
    have HI := Lib.hid hI
    by_cases hlt : ps.length < n
    · have hlt' : (ps.length : Int) < n := by omega
      have hkl : ps.length < cs.length := by rw [HL.out]; exact hlt
      obtain ⟨g, off, rfl, hat⟩ := (hx.below hb).form hlt
      obtain ⟨A1, n1, c1, k0, k1, k2, hr1, hn1, hc1⟩ := hat
      obtain ⟨ck, hck⟩ : ∃ ck, ck = cs[ps.length]'hkl := ⟨_, rfl⟩
      rw [← hck] at k0 k1 hr1
      have HCK := Lib.hid hck
      have hl1 := HS.out ck (by rw [hck]; exact List.getElem_mem _)
      rw [hr1.len] at hl1
      have HN1 := Lib.hid hr1.len
      clear hck hI
      go_upto_region 6 with fail
      have n1d : (wr.alloc (.cells #[.int .u8 (ck.k.toNat : Int), .int .u8 (ck.f.toNat : Int), .slice A1 n1 c1] 45)).drew.heap[wr.heap.size]? = some (.cells #[.int .u8 (ck.k.toNat : Int), .int .u8 (ck.f.toNat : Int), .slice A1 n1 c1] 45 (0, 0)) := heap_alloc_new wr _
      have hr1d : Rd (wr.alloc (.cells #[.int .u8 (ck.k.toNat : Int), .int .u8 (ck.f.toNat : Int), .slice A1 n1 c1] 45)).drew A1 n1 ck.xs := hr1.alloc _
      have t1 : Below wr.heap.size wr (wr.alloc (.cells #[.int .u8 (ck.k.toNat : Int), .int .u8 (ck.f.toNat : Int), .slice A1 n1 c1] 45)).drew := ((Below.refl _ _).alloc (Nat.le_refl _) _).drew
      have hownp := fun g e => (HI.out.own.lt g e)
      have hmap : (ps ++ [(⟨ck, none, 0⟩ : Cp)]).map (·.c) = cs.take (ps.length + 1) := by
        rw [List.map_append, HI.out.map, List.take_succ_eq_append_getElem hkl, ← HCK.out]
        rfl
      have HMAP := Lib.hid hmap
      clear hmap
      go_region_held3 (fun w' => w'.cell? ⟨wr.heap.size, 0, none⟩ = some (.int .u8 (ck.k.toNat : Int)) ∧ w'.cell? ⟨wr.heap.size, 1, none⟩ = some (.int .u8 (ck.f.toNat : Int)) ∧ w'.cell? ⟨wr.heap.size, 2, none⟩ = some (.slice A1 n1 c1))
        (first | go_keep | (go_show; fail))
        (first
          | (go_at_call 62; (with_reducible refine (copy_any A1 n1 c1 ck.xs _ hr1d (by omega)).mono ?_); rintro e w2 ⟨A2, c2, rfl, hB2, hb2⟩; have n2 := stays n1d hb2; have q2 := fun i => cell_of_row w2 wr.heap.size i _ 45 (0, 0) n2; have t2 := t1.trans (hb2.mono (by simp)); have hl2 := lt_of_heap n2; have ne2 : w2.heap.size ≠ wr.heap.size := Nat.ne_of_gt hl2)
          | (refine step_append_lies _ (by rfl) (.tmp 18) (.tmp 27) 41 (by rfl) (w.heap.size + 2) 45 i0 _ 3 32 Try.underlying41 hi0 hz0 hz1 hz2 rfl (by omega) (.slice Av ps.length cv) ps.length (rowsV ps) (by rfl) ((HI.out.own.below t2).alloc _) ⟨w2.heap.size, 0, none⟩ 1 1 [.int .u8 (ck.k.toNat : Int), .int .u8 (ck.f.toNat : Int), .slice A2 n1 c2] (by rfl) (by rfl) (World.news_of_block (cs := #[.int .u8 (ck.k.toNat : Int), .int .u8 (ck.f.toNat : Int), .slice A2 n1 c2]) (t := 45) (fr := (0, 0)) (heap_alloc_new w2 _)) (by simp [Value.oneCell']) (by omega) (by unfold maxLen; omega) (by omega) (by have := hb.size; simp; have := lt_of_heap HI.out.b1; omega) (w2.heap.size + 1) (by simp) ?_; intro gg cap w4 hown4 hg4 hat4 hlt4; have n4 := (hg4.block wr.heap.size (by simp; omega) (fun e => by have := (hownp _ e.symm).2; omega)).trans ((Below.heap_alloc w2 _ _ hl2).trans n2); have q4 := fun i => cell_of_row w4 wr.heap.size i _ 45 (0, 0) n4))
      all_goals (
        go_wp2
        go_roundw
        case rel =>
          refine ⟨ps.length + 1, ps ++ [⟨ck, A2, c2⟩], by omega, by go_num, ?_⟩
          have hp : Bo (w2.alloc (.cells #[.int .u8 (ck.k.toNat : Int), .int .u8 (ck.f.toNat : Int), .slice A2 n1 c2] 45)) w.heap.size A2 ck.xs.length c2 ck.xs := by
            have h0 := (hB2.alloc (.cells #[.int .u8 (ck.k.toNat : Int), .int .u8 (ck.f.toNat : Int), .slice A2 n1 c2] 45)).mono (base' := w.heap.size) (by have := hb.size; simp; omega)
            rw [HN1.out]
            exact h0
          have ho : OwnC w4 (w.heap.size + 2) (.slice (some ⟨gg, 0, none⟩) (ps.length + 1) cap) (ps ++ [⟨ck, A2, c2⟩]) := by
            have e : rowsV (ps ++ [⟨ck, A2, c2⟩]) = rowsV ps ++ [.int .u8 (ck.k.toNat : Int), .int .u8 (ck.f.toNat : Int), .slice A2 n1 c2] := by
              rw [rowsV_append, rowsV_one, ← HN1.out]; rfl
            unfold OwnC
            rw [List.length_append, e]
            exact hown4
          exact HI.out.step (t2.alloc t2.size _) hp (by have := HMAP.out; simpa using this) ho hg4
        case measure => simp [intOf]; omega)
    · obtain rfl : n = ps.length := by omega
      have hmp : ps.map (·.c) = cs := by rw [HI.out.map, List.take_of_length_le (by rw [HL.out]; omega)]
      have HMP := Lib.hid hmp
      have r1 := fun i => cell_of_row wr (w.heap.size + 1) i _ 43 (0, 0) HI.out.b1
      have f1 := fun i => frozen_of_row wr (w.heap.size + 1) i _ 43 HI.out.b1
      clear hmp
      go_wp2
      have e0 := heap_setCell_same wr (w.heap.size + 1) 0 _ 43 (.int .u32 (t : Int)) HI.out.b1
      have e1 := heap_setCell_same _ (w.heap.size + 1) 1 _ 43 (.slice Av ps.length cv) e0
      have kk : KC (fun k => k = w.heap.size + 1) wr ((wr.setCell ⟨w.heap.size + 1, 0, none⟩ (.int .u32 (t : Int))).setCell ⟨w.heap.size + 1, 1, none⟩ (.slice Av ps.length cv)) := (KC.setCell wr ⟨w.heap.size + 1, 0, none⟩ _).trans (KC.setCell _ ⟨w.heap.size + 1, 1, none⟩ _)
      have hE : ∀ g cs t, wr.heap[g]? = some (.cells cs t (0, 0)) → t ≠ 43 → ¬ g = w.heap.size + 1 := by
        rintro g cs t hg h4 rfl
        rw [HI.out.b1] at hg
        simp at hg
        exact h4 hg.2.symm
      have ho := HI.out.own.kc kk (fun g cs hg => hE g cs _ hg (by decide))
      have hbd := HI.out.bod.kc kk (fun g cs hg => hE g cs _ hg (by decide))
      have hck := (ho.cks hbd.ok).2
      rw [HMP.out] at hck
      refine bodyPost_ret (v := .agg #[.int .u32 (t : Int), .slice Av ps.length cv]) (by rw [res54 (g := w.heap.size + 1) rfl e1]) rfl ⟨Av, cv, rfl, hck, hvc, by unfold maxLen at hvm; omega, ?_⟩
      exact (hb.setCell (p := ⟨w.heap.size + 1, 0, none⟩) (by simp) _).setCell (p := ⟨w.heap.size + 1, 1, none⟩) (by simp) _
end Go.Proofs.Ythndlhflkbidiaa
