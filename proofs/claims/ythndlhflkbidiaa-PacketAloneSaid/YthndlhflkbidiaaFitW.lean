/- slices.Clone of chunks; may a packet have a chunk more (packet.Fits). -/
import Derived.Test.YthndlhflkbidiaaCpW
import Derived.Test.YthndlhflkbidiaaMayW
import Derived.Test.YthndlhflkbidiaaSzW
import Derived.Test.YthndlhflkbidiaaOpenK
import Derived.Deep.DeepCutAuto
import Derived.Deep.RegionHeld3
namespace Go.Proofs.Ythndlhflkbidiaa
open Go Go.RowKit

theorem add_flat (b o j : Nat) : (⟨b, o, none⟩ : Addr).add j = ⟨b, o + j, none⟩ := by unfold Addr.add; split <;> simp_all
/-- The rows behind chunks that read. -/
theorem Cks.rows {w : World} {A : Option Addr} {n : Nat} {cs : List Ck} (h : Cks w A n cs) :
    ∃ ps : List Cp, ps.map (·.c) = cs ∧ ps.length = n ∧ (∀ p ∈ ps, BodyOk w p) ∧ ∀ ad, A = some ad → ∀ j u, (rowsV ps)[j]? = some u → w.cell? (ad.add j) = some u := by
  have hl := h.len
  rcases Nat.eq_zero_or_pos n with h0 | h0
  · subst h0
    obtain rfl := List.eq_nil_of_length_eq_zero hl
    exact ⟨[], rfl, rfl, fun p hp => absurd hp (by simp), fun ad _ j u hu => by simp [rowsV] at hu⟩
  · obtain ⟨b, off, rfl, hat⟩ := h.2 h0
    obtain ⟨ps, hpl, hps⟩ := list_of (fun j (p : Cp) => ∃ hj : j < cs.length, p.c = cs[j] ∧ BodyOk w p ∧ ∀ i u, p.vals[i]? = some u → w.cell? ⟨b, off + j * 3 + i, none⟩ = some u) n (fun j hj => by
      obtain ⟨A1, n1, c1, k0, k1, k2, hr, hn, hc⟩ := hat j (by omega)
      have hrl := hr.len
      refine ⟨⟨cs[j], A1, c1⟩, by omega, rfl, ⟨by rw [hrl]; exact hr, by rw [hrl]; exact hn, hc⟩, fun i u hu => ?_⟩
      match i with
      | 0 => simp [Cp.vals] at hu; subst hu; exact k0
      | 1 => simp [Cp.vals] at hu; subst hu; exact k1
      | 2 => simp [Cp.vals] at hu; subst hu; rw [hrl]; exact k2
      | i + 3 => simp [Cp.vals] at hu)
    refine ⟨ps, ?_, hpl, fun p hp => ?_, fun ad had j u hu => ?_⟩
    · apply List.ext_getElem
      · rw [List.length_map, hpl, hl]
      · intro i h1 h2
        rw [List.getElem_map]
        exact (hps i (by simpa using h1)).2.1
    · obtain ⟨i, hi, rfl⟩ := List.getElem_of_mem hp
      exact (hps i hi).2.2.1
    · injection had with had
      subst had
      have hj := (List.getElem?_eq_some_iff.1 hu).1
      rw [rowsV_length] at hj
      have hq : j / 3 < ps.length := by omega
      have e3 : j = j / 3 * 3 + j % 3 := by omega
      rw [e3, rowsV_get ps (j / 3) (j % 3) hq (by omega)] at hu
      have := (hps (j / 3) hq).2.2.2 _ _ hu
      rw [add_flat, show off + j = off + j / 3 * 3 + j % 3 by omega]
      exact this

def ClOut (w : World) (n : Nat) (cs : List Ck) (e : Ending) (w' : World) : Prop :=
  ∃ A c ps, e = .returned (.slice A n c) ∧ OwnC w' w.heap.size (.slice A n c) ps ∧ ps.map (·.c) = cs ∧ ps.length = n ∧ (∀ p ∈ ps, BodyOk w p) ∧ Below w.heap.size w w'
theorem cloneC_any (A : Option Addr) (n c : Nat) (cs : List Ck) (w : World) (hx : Cks w A n cs) (hn : n ≤ 1000000) :
    Calls Try.prog 70 #[.slice A n c] w (ClOut w n cs) := by
  have hnil := Lib.run_eql_slice_nil (P := Try.prog) w 41 45 A n c 0 0 Try.underlying41
  obtain ⟨ps, hps, hpl, hbod, hcell⟩ := hx.rows
  cases A with
  | none =>
    have hn0 : n = 0 := by
      rcases Nat.eq_zero_or_pos n with h | h
      · exact h
      · obtain ⟨b, off, e, _⟩ := hx.2 h
        cases e
    subst hn0
    obtain rfl : cs = [] := List.eq_nil_of_length_eq_zero hx.1
    go_enter Try.func70, Try.ntmps70
    go_wp2
    go_ret
    exact ⟨none, 0, [], rfl, ownC_nil _ _, rfl, rfl, fun p hp => absurd hp (by simp), Below.refl _ _⟩
  | some a =>
    clear hnil
    go_enter Try.func70, Try.ntmps70
    have hnil := Lib.run_eql_slice_nil (P := Try.prog) w 41 45 (some a) n c 0 0 Try.underlying41
    have hmk : OwnC (w.alloc (.cells #[] 45)) w.heap.size (.slice (some ⟨w.heap.size, 0, none⟩) 0 0) [] := World.ownsRow_made w #[] 0 (Nat.le_refl _) (by unfold maxLen; omega) rfl
    have t0 : Below w.heap.size w (w.alloc (.cells #[] 45)) := (Below.refl _ _).alloc (Nat.le_refl _) _
    have hcell' : ∀ j u, (rowsV ps)[j]? = some u → (w.alloc (.cells #[] 45)).cell? (a.add j) = some u := fun j u hu => by
      have h1 := hcell a rfl j u hu
      exact (World.cell?_alloc_lt w _ _ (World.block_lt_of_cell? w _ h1)).trans h1
    go_wp2_with (at_builtin; refine wpList_chunks _ rfl (.tmp 5) (.tmp 6) rfl w.heap.size (.slice (some ⟨w.heap.size, 0, none⟩) 0 0) [] ps rfl hmk a n c hpl rfl hcell' (by simp; omega) (by simp) ?_; intro A2 c2 w1 hown hg)
    go_ret
    have hb := below_ownC hmk hg (by simp)
    refine ⟨A2, c2, ps, by simp, by simpa using hown, hps, hpl, hbod, t0.trans hb⟩
/-- P10.2, P10.1: whether a chunk more has its place. -/
def fitsB (cs : List Ck) (ck : Ck) (mtu : Int) : Bool := mayB (cs ++ [ck]) && decide (((sizeB cs + ckN ck : Nat) : Int) ≤ mtu)
theorem row45_heap (w : World) (x y a b d : Value) :
    ((w.alloc (.cells #[x, y] 43)).alloc (.cells #[a, b, d] 45)).heap[w.heap.size]? = some (.cells #[x, y] 43 (0, 0)) ∧
    ((w.alloc (.cells #[x, y] 43)).alloc (.cells #[a, b, d] 45)).heap[w.heap.size + 1]? = some (.cells #[a, b, d] 45 (0, 0)) := by
  constructor
  · rw [Below.heap_alloc _ _ _ (by simp)]
    exact heap_alloc_new w _
  · have := heap_alloc_new (w.alloc (.cells #[x, y] 43)) (.cells #[a, b, d] 45)
    simpa using this

/-- What an append of a chunk onto a clone leaves. -/
theorem fits_grown {w W wL w4 : World} {h n m c2 d gg cap : Nat} {A2 B : Option Addr} {cs : List Ck} {ck : Ck} {ps : List Cp} {t : Int} {A : Option Addr} {c : Nat} (t0 : Below w.heap.size w W)
    (hps : ps.map (·.c) = cs) (hpl : ps.length = n) (hown : wL.ownsRow W.heap.size 45 3 (.slice A2 n c2) n (rowsV ps)) (hbod : ∀ p ∈ ps, BodyOk W p) (hb2 : Below W.heap.size W wL)
    (hg4 : wL.grownBy w4 (Value.slice A2 n c2).ownBlock)
    (hown4 : w4.ownsRow W.heap.size 45 3 (.slice (some ⟨gg, 0, none⟩) (n + 1) cap) (n + 1) (rowsV ps ++ [.int .u8 (ck.k.toNat : Int), .int .u8 (ck.f.toNat : Int), .slice B m d]))
    (n2 : wL.heap[h]? = some (.cells #[.int .u32 t, .slice A n c] 43 (0, 0))) (m2 : wL.heap[h + 1]? = some (.cells #[.int .u8 (ck.k.toNat : Int), .int .u8 (ck.f.toNat : Int), .slice B m d] 45 (0, 0)))
    (hh : h + 1 < W.heap.size) (hr : Rd W B m ck.xs) (hmd : m ≤ d) (hd : d ≤ 9223372036854775807) :
    Cks w4 (some ⟨gg, 0, none⟩) (n + 1) (cs ++ [ck]) ∧ w4.heap[h]? = some (.cells #[.int .u32 t, .slice A n c] 43 (0, 0)) ∧ w4.heap[h + 1]? = some (.cells #[.int .u8 (ck.k.toNat : Int), .int .u8 (ck.f.toNat : Int), .slice B m d] 45 (0, 0)) ∧ Below w.heap.size w w4 := by
  have hl : ∀ g, (Value.slice A2 n c2).ownBlock = some g → W.heap.size ≤ g := fun g e => (hown.lt g e).1
  have hs2 : W.heap.size ≤ wL.heap.size := hb2.size
  have hrl := hr.len
  have bel : Below W.heap.size W w4 := hb2.grown hg4 hs2 (fun g e => hl g e)
  have hq : OwnC w4 W.heap.size (.slice (some ⟨gg, 0, none⟩) (n + 1) cap) (ps ++ [⟨ck, B, d⟩]) := by
    have e : rowsV (ps ++ [⟨ck, B, d⟩]) = rowsV ps ++ [.int .u8 (ck.k.toNat : Int), .int .u8 (ck.f.toNat : Int), .slice B m d] := by
      rw [rowsV_append, rowsV_one, ← hrl]; rfl
    unfold OwnC
    rw [List.length_append, hpl, e]
    exact hown4
  have bo : ∀ p ∈ ps ++ [⟨ck, B, d⟩], BodyOk w4 p := fun p hp => by
    rcases List.mem_append.1 hp with hp | hp
    · exact (hbod p hp).below bel
    · obtain rfl : p = ⟨ck, B, d⟩ := by simpa using hp
      exact ⟨by rw [hrl]; exact hr.below bel, by rw [hrl]; exact hmd, hd⟩
  have hc := (hq.cks bo).2
  rw [List.map_append, hps] at hc
  have hpl1 : (ps ++ [(⟨ck, B, d⟩ : Cp)]).length = n + 1 := by rw [List.length_append, hpl]; rfl
  rw [hpl1] at hc
  refine ⟨hc, ?_, ?_, t0.trans (bel.mono t0.size)⟩
  · exact (hg4.block h (lt_of_heap n2) (fun e => by have := hl _ e.symm; omega)).trans n2
  · exact (hg4.block (h + 1) (lt_of_heap m2) (fun e => by have := hl _ e.symm; omega)).trans m2

set_option maxRecDepth 100000 in
set_option maxHeartbeats 1600000 in
theorem fits_any (t : Int) (A : Option Addr) (n c : Nat) (cs : List Ck) (ck : Ck) (B : Option Addr) (m d : Nat) (mtu : Int) (w : World) (hx : Cks w A n cs) (hr : Rd w B m ck.xs) (hmd : m ≤ d) (hd : d ≤ 9223372036854775807) (hn : n ≤ 999) (hl : ∀ c ∈ cs, c.xs.length ≤ 1000000) (hm : m ≤ 1000000) :
    Calls Try.prog 42 #[.agg #[.int .u32 t, .slice A n c], .agg #[.int .u8 (ck.k.toNat : Int), .int .u8 (ck.f.toNat : Int), .slice B m d], .int .i64 mtu] w fun e w' => e = .returned (.bool (fitsB cs ck mtu)) ∧ Below w.heap.size w w' := by
  have HL := Lib.hid hx.len
  have HS := Lib.hid hl
  have hh := row45_heap w (.int .u32 t) (.slice A n c) (.int .u8 (ck.k.toNat : Int)) (.int .u8 (ck.f.toNat : Int)) (.slice B m d)
  have t0 : Below w.heap.size w ((w.alloc (.cells #[.int .u32 t, .slice A n c] 43)).alloc (.cells #[.int .u8 (ck.k.toNat : Int), .int .u8 (ck.f.toNat : Int), .slice B m d] 45)) := ((Below.refl _ _).alloc (Nat.le_refl _) _).alloc (by simp) _
  obtain ⟨mv, hmv⟩ : ∃ v, v = mayB (cs ++ [ck]) := ⟨_, rfl⟩
  have HMV := Lib.hid hmv
  clear hl hmv
  go_enter Try.func42, Try.ntmps42
  go_upto_region 1 with fail
  have hx0 := (hx.alloc (.cells #[.int .u32 t, .slice A n c] 43)).alloc (.cells #[.int .u8 (ck.k.toNat : Int), .int .u8 (ck.f.toNat : Int), .slice B m d] 45)
  have hr0 := (hr.alloc (.cells #[.int .u32 t, .slice A n c] 43)).alloc (.cells #[.int .u8 (ck.k.toNat : Int), .int .u8 (ck.f.toNat : Int), .slice B m d] 45)
  have hs0 : ((w.alloc (.cells #[.int .u32 t, .slice A n c] 43)).alloc (.cells #[.int .u8 (ck.k.toNat : Int), .int .u8 (ck.f.toNat : Int), .slice B m d] 45)).heap.size = w.heap.size + 1 + 1 := by simp
  generalize (w.alloc (.cells #[.int .u32 t, .slice A n c] 43)).alloc (.cells #[.int .u8 (ck.k.toNat : Int), .int .u8 (ck.f.toNat : Int), .slice B m d] 45) = W0 at *
  have g0 := fun i => cell_of_row W0 w.heap.size i _ 43 (0, 0) hh.1
  have g1 := fun i => cell_of_row W0 (w.heap.size + 1) i _ 45 (0, 0) hh.2
  have hh0 : w.heap.size < W0.drew.heap.size := lt_of_block hh.1
  have hh1 : w.heap.size + 1 < W0.drew.heap.size := lt_of_block hh.2
  have hsz : sizeB cs ≤ 2000000000 := by
    have h1 := sum_le ckN 1000007 (cs := cs) (fun c hc => by have h2 := HS.out c hc; have h3 := up_le c.xs.length; unfold ckN; omega)
    rw [HL.out] at h1
    have h4 : n * 1000007 ≤ 999 * 1000007 := Nat.mul_le_mul_right _ hn
    unfold sizeB
    omega
  have hup := up_le m
  have hwr4 : IntKind.i64.wrap ((sizeB cs : Int) + (4 + (up m : Int))) = ((sizeB cs + ckN ck : Nat) : Int) := by
    have e : ckN ck = 4 + up m := by unfold ckN; rw [hr.len]
    rw [IntWalk.i64_in _ (by omega), e]
    omega
  have HWR := Lib.hid hwr4
  clear hwr4
  have hxd : Cks W0.drew A n cs := hx0
  have hxa : Cks (W0.alloc (.cells #[.int .u8 (ck.k.toNat : Int), .int .u8 (ck.f.toNat : Int), .slice B m d] 45)).drew A n cs := hx0.alloc _
  have hrd : Rd W0.drew B m ck.xs := hr0
  have hra : Rd (W0.alloc (.cells #[.int .u8 (ck.k.toNat : Int), .int .u8 (ck.f.toNat : Int), .slice B m d] 45)).drew B m ck.xs := hr0.alloc _
  have nd : W0.drew.heap[w.heap.size]? = some (.cells #[.int .u32 t, .slice A n c] 43 (0, 0)) := hh.1
  have md : W0.drew.heap[w.heap.size + 1]? = some (.cells #[.int .u8 (ck.k.toNat : Int), .int .u8 (ck.f.toNat : Int), .slice B m d] 45 (0, 0)) := hh.2
  have na : (W0.alloc (.cells #[.int .u8 (ck.k.toNat : Int), .int .u8 (ck.f.toNat : Int), .slice B m d] 45)).drew.heap[w.heap.size]? = some (.cells #[.int .u32 t, .slice A n c] 43 (0, 0)) := (Below.heap_alloc W0.drew (.cells #[.int .u8 (ck.k.toNat : Int), .int .u8 (ck.f.toNat : Int), .slice B m d] 45) w.heap.size hh0).trans nd
  have ma : (W0.alloc (.cells #[.int .u8 (ck.k.toNat : Int), .int .u8 (ck.f.toNat : Int), .slice B m d] 45)).drew.heap[w.heap.size + 1]? = some (.cells #[.int .u8 (ck.k.toNat : Int), .int .u8 (ck.f.toNat : Int), .slice B m d] 45 (0, 0)) := (Below.heap_alloc W0.drew (.cells #[.int .u8 (ck.k.toNat : Int), .int .u8 (ck.f.toNat : Int), .slice B m d] 45) (w.heap.size + 1) hh1).trans md
  have xa : (W0.alloc (.cells #[.int .u8 (ck.k.toNat : Int), .int .u8 (ck.f.toNat : Int), .slice B m d] 45)).drew.heap[w.heap.size + 1 + 1]? = some (.cells #[.int .u8 (ck.k.toNat : Int), .int .u8 (ck.f.toNat : Int), .slice B m d] 45 (0, 0)) := by
    rw [← hs0]
    exact heap_alloc_new W0.drew (.cells #[.int .u8 (ck.k.toNat : Int), .int .u8 (ck.f.toNat : Int), .slice B m d] 45)
  have sd : W0.drew.heap.size = w.heap.size + 1 + 1 := hs0
  have sa : (W0.alloc (.cells #[.int .u8 (ck.k.toNat : Int), .int .u8 (ck.f.toNat : Int), .slice B m d] 45)).drew.heap.size = w.heap.size + 1 + 1 + 1 := by have h : (W0.alloc (.cells #[.int .u8 (ck.k.toNat : Int), .int .u8 (ck.f.toNat : Int), .slice B m d] 45)).heap.size = w.heap.size + 1 + 1 + 1 := (by simp [hs0]); exact h
  have td := t0.drew
  have ta : Below w.heap.size w (W0.alloc (.cells #[.int .u8 (ck.k.toNat : Int), .int .u8 (ck.f.toNat : Int), .slice B m d] 45)).drew := (t0.alloc t0.size _).drew
  have hwr : IntKind.i64.wrap ((sizeB cs : Int) + ((4 + up m : Nat) : Int)) = (sizeB cs : Int) + ((4 + up m : Nat) : Int) := by rw [IntWalk.i64_in _ (by omega)]
  obtain ⟨i0, hi0, hz0, hz1, hz2⟩ := info_parts info45'
  have hSw : ∀ {W : World}, W.heap[w.heap.size]? = some (.cells #[.int .u32 t, .slice A n c] 43 (0, 0)) → W.heap[w.heap.size + 1]? = some (.cells #[.int .u8 (ck.k.toNat : Int), .int .u8 (ck.f.toNat : Int), .slice B m d] 45 (0, 0)) → (fun w' => w'.cell? ⟨w.heap.size, 0, none⟩ = some (.int .u32 t) ∧ w'.cell? ⟨w.heap.size, 1, none⟩ = some (.slice A n c) ∧ w'.cell? ⟨w.heap.size + 1, 0, none⟩ = some (.int .u8 (ck.k.toNat : Int)) ∧ w'.cell? ⟨w.heap.size + 1, 1, none⟩ = some (.int .u8 (ck.f.toNat : Int)) ∧ w'.cell? ⟨w.heap.size + 1, 2, none⟩ = some (.slice B m d)) W := fun {W} h1 h2 => by
    have a := fun i => cell_of_row W w.heap.size i _ 43 (0, 0) h1
    have b := fun i => cell_of_row W (w.heap.size + 1) i _ 45 (0, 0) h2
    exact ⟨(a 0).trans rfl, (a 1).trans rfl, (b 0).trans rfl, (b 1).trans rfl, (b 2).trans rfl⟩
  go_cut [6] (fun x wx => x = .bool (mv && decide (((sizeB cs + ckN ck : Nat) : Int) ≤ mtu)) ∧ Below w.heap.size w wx)
  case first =>
    cases mv
    case false =>
      refine wp_region_held_drew (S := fun w' => w'.cell? ⟨w.heap.size, 0, none⟩ = some (.int .u32 t) ∧ w'.cell? ⟨w.heap.size, 1, none⟩ = some (.slice A n c) ∧ w'.cell? ⟨w.heap.size + 1, 0, none⟩ = some (.int .u8 (ck.k.toNat : Int)) ∧ w'.cell? ⟨w.heap.size + 1, 1, none⟩ = some (.int .u8 (ck.f.toNat : Int)) ∧ w'.cell? ⟨w.heap.size + 1, 2, none⟩ = some (.slice B m d)) (by kernel_rfl) (hSw nd md) (fun hHeld => ?_)
      refine wpAnyH_take (i := 0) (v := ?_) rfl (by kernel_rfl) (by kernel_rfl) (by kernel_rfl) (fun _ _ _ h => h) (Or.inl ⟨by rfl, ?_⟩) hHeld ?_
      rotate_left
      · intro w9 hSw
        (try dsimp only at hSw)
        go_simp
        try with_reducible rfl
      simp only [Act.put, List.setIfInBounds_toArray]
      refine wpAnyH_take (i := 1) (v := ?_) rfl (by kernel_rfl) (by kernel_rfl) (by kernel_rfl) (fun _ _ _ h => h) (Or.inl ⟨by rfl, ?_⟩) hHeld ?_
      rotate_left
      · intro w9 hSw
        (try dsimp only at hSw)
        go_simp
        try with_reducible rfl
      simp only [Act.put]
      refine wpAnyH_take (i := 3) (v := ?_) rfl (by kernel_rfl) (by kernel_rfl) (by kernel_rfl) (fun _ _ _ h => h) (Or.inl ⟨by rfl, ?_⟩) hHeld ?_
      rotate_left
      · intro w9 hSw
        (try dsimp only at hSw)
        go_simp
        try with_reducible rfl
      simp only [Act.put]
      refine wpAnyH_ready (rs := [2, 4]) (by kernel_rfl) (by simp) ?_
      refine AllReadyH.cons rfl (fun K hK => ?_) (AllReadyH.cons rfl (fun K hK => ?_) AllReadyH.nil)
      · go_simp
        go_at_call 70; (refine (cloneC_any A n c cs W0.drew hxd (by omega)).mono ?_); rintro e w2 ⟨A2, c2, ps, rfl, hown, hps, hpl, hbod, hb2⟩; have n2 := stays nd hb2; have m2 := stays md hb2; have q2 := fun i => cell_of_row w2 w.heap.size i _ 43 (0, 0) n2; have r2 := fun i => cell_of_row w2 (w.heap.size + 1) i _ 45 (0, 0) m2; have hl2 := lt_of_heap n2; have ne2 : w2.heap.size ≠ w.heap.size := Nat.ne_of_gt hl2; have hm2 := lt_of_heap m2; have me2 : w2.heap.size ≠ w.heap.size + 1 := Nat.ne_of_gt hm2; have hownM : OwnC w2 W0.drew.heap.size (.slice A2 n c2) ps := hown; have hownA : (w2.alloc (.cells #[.int .u8 (ck.k.toNat : Int), .int .u8 (ck.f.toNat : Int), .slice B m d] 45)).ownsRow W0.drew.heap.size 45 3 (.slice A2 n c2) n (rowsV ps) := (by have h := hownM.alloc (.cells #[.int .u8 (ck.k.toNat : Int), .int .u8 (ck.f.toNat : Int), .slice B m d] 45); rw [hpl] at h; exact h); have hbs : W0.drew.heap.size ≤ (w2.alloc (.cells #[.int .u8 (ck.k.toNat : Int), .int .u8 (ck.f.toNat : Int), .slice B m d] 45)).heap.size := (by have h := hb2.size; simp; exact Nat.le_succ_of_le h); have hbL := hb2.alloc hb2.size (.cells #[.int .u8 (ck.k.toNat : Int), .int .u8 (ck.f.toNat : Int), .slice B m d] 45); have nL := (Below.heap_alloc w2 (.cells #[.int .u8 (ck.k.toNat : Int), .int .u8 (ck.f.toNat : Int), .slice B m d] 45) w.heap.size hl2).trans n2; have mL := (Below.heap_alloc w2 (.cells #[.int .u8 (ck.k.toNat : Int), .int .u8 (ck.f.toNat : Int), .slice B m d] 45) (w.heap.size + 1) hm2).trans m2
        refine hK.out _ _ (hSw n2 m2) (fun hHeld => ?_)
        clear hK K
        try simp only [Act.put, List.setIfInBounds_toArray, List.set_cons_zero, List.set_cons_succ]
        refine wpAnyH_ready (rs := [4]) (by kernel_rfl) (by simp) ?_
        refine AllReadyH.cons rfl (fun K hK => ?_) AllReadyH.nil
        go_simp
        refine hK.out _ _ (hSw nL mL) (fun hHeld => ?_)
        clear hK K
        try simp only [Act.put, List.setIfInBounds_toArray, List.set_cons_zero, List.set_cons_succ]
        refine wpAnyH_ready (rs := [5]) (by kernel_rfl) (by simp) ?_
        refine AllReadyH.cons rfl (fun K hK => ?_) AllReadyH.nil
        refine step_append_lies _ (by rfl) (.tmp 9) (.tmp 11) 41 (by rfl) W0.drew.heap.size 45 i0 _ 3 32 Try.underlying41 hi0 hz0 hz1 hz2 rfl (by omega) (.slice A2 n c2) n (rowsV ps) (by rfl) hownA ⟨w2.heap.size, 0, none⟩ 1 1 [.int .u8 (ck.k.toNat : Int), .int .u8 (ck.f.toNat : Int), .slice B m d] (by rfl) (by rfl) (World.news_of_block (cs := #[.int .u8 (ck.k.toNat : Int), .int .u8 (ck.f.toNat : Int), .slice B m d]) (t := 45) (fr := (0, 0)) (heap_alloc_new w2 _)) (by simp [Value.oneCell']) (by omega) (by unfold maxLen; omega) (by omega) hbs (w2.heap.size + 1) (by simp) ?_; intro gg cap w4 hown4 hg4 hat4 hlt4; obtain ⟨hk4, n4, m4, hb4⟩ := fits_grown td hps hpl hownA hbod hbL hg4 hown4 nL mL hh1 hrd hmd hd; have q4 := fun i => cell_of_row w4 w.heap.size i _ 43 (0, 0) n4; have r4 := fun i => cell_of_row w4 (w.heap.size + 1) i _ 45 (0, 0) m4
        refine hK.out _ _ (hSw n4 m4) (fun hHeld => ?_)
        clear hK K
        try simp only [Act.put, List.setIfInBounds_toArray]
        refine wpAnyH_ready (rs := [6]) (by kernel_rfl) (by simp) ?_
        refine AllReadyH.cons rfl (fun K hK => ?_) AllReadyH.nil
        go_simp
        go_at_call 69; (refine (may_any _ _ _ (cs ++ [ck]) _ hk4 (by omega)).mono ?_); rintro e w5 ⟨rfl, hb5⟩; rw [← HMV.out]; have n5 := stays n4 hb5; have m5 := stays m4 hb5; have q5 := fun i => cell_of_row w5 w.heap.size i _ 43 (0, 0) n5; have r5 := fun i => cell_of_row w5 (w.heap.size + 1) i _ 45 (0, 0) m5; have hb45 := hb4.trans (hb5.mono hb4.size); have hx5 := hx.below hb45
        refine hK.out _ _ (hSw n5 m5) (fun hHeld => ?_)
        clear hK K
        try simp only [Act.put, List.setIfInBounds_toArray, List.set_cons_zero, List.set_cons_succ]
        refine wpAnyH_take (i := 7) (v := ?_) rfl (by kernel_rfl) (by kernel_rfl) (by kernel_rfl) (fun _ _ _ h => h) (Or.inl ⟨by rfl, ?_⟩) hHeld ?_
        rotate_left
        · intro w9 hSw
          (try dsimp only at hSw)
          go_simp
          try with_reducible rfl
        simp only [Act.put, List.setIfInBounds_toArray]
        refine wpAnyH_take (i := 8) (v := undef) rfl (by kernel_rfl) (by kernel_rfl) (by kernel_rfl) (fun _ _ _ h => h) (Or.inr ⟨by rfl, rfl⟩) hHeld ?_
        simp only [Act.put]
        refine wpAnyH_take (i := 10) (v := undef) rfl (by kernel_rfl) (by kernel_rfl) (by kernel_rfl) (fun _ _ _ h => h) (Or.inr ⟨by rfl, rfl⟩) hHeld ?_
        simp only [Act.put]
        refine wpAnyH_take (i := 13) (v := undef) rfl (by kernel_rfl) (by kernel_rfl) (by kernel_rfl) (fun _ _ _ h => h) (Or.inr ⟨by rfl, rfl⟩) hHeld ?_
        simp only [Act.put]
        first
          | (refine wpAnyH_take (i := 9) (v := undef) rfl (by kernel_rfl) (by kernel_rfl) (by kernel_rfl) (fun _ _ _ h => h) (Or.inr ⟨by rfl, rfl⟩) hHeld ?_; simp only [Act.put])
          | (refine wpAnyH_ready (rs := [9]) (by kernel_rfl) (by simp) ?_; refine AllReadyH.cons rfl (fun K hK => ?_) AllReadyH.nil; rw [if_neg (by decide)]; refine hK.out _ _ (hSw n5 m5) (fun hHeld => ?_); clear hK K; simp only [Act.put, List.setIfInBounds_toArray, List.set_cons_zero, List.set_cons_succ])
        first
          | (refine wpAnyH_take (i := 11) (v := undef) rfl (by kernel_rfl) (by kernel_rfl) (by kernel_rfl) (fun _ _ _ h => h) (Or.inr ⟨by rfl, rfl⟩) hHeld ?_; simp only [Act.put])
          | (refine wpAnyH_ready (rs := [11]) (by kernel_rfl) (by simp) ?_; refine AllReadyH.cons rfl (fun K hK => ?_) AllReadyH.nil; rw [if_neg (by decide)]; refine hK.out _ _ (hSw n5 m5) (fun hHeld => ?_); clear hK K; simp only [Act.put, List.setIfInBounds_toArray, List.set_cons_zero, List.set_cons_succ])
        first
          | (refine wpAnyH_take (i := 12) (v := undef) rfl (by kernel_rfl) (by kernel_rfl) (by kernel_rfl) (fun _ _ _ h => h) (Or.inr ⟨by rfl, rfl⟩) hHeld ?_; simp only [Act.put])
          | (refine wpAnyH_ready (rs := [12]) (by kernel_rfl) (by simp) ?_; refine AllReadyH.cons rfl (fun K hK => ?_) AllReadyH.nil; rw [if_neg (by decide)]; refine hK.out _ _ (hSw n5 m5) (fun hHeld => ?_); clear hK K; simp only [Act.put, List.setIfInBounds_toArray, List.set_cons_zero, List.set_cons_succ])
        first
          | (refine wpAnyH_take (i := 14) (v := undef) rfl (by kernel_rfl) (by kernel_rfl) (by kernel_rfl) (fun _ _ _ h => h) (Or.inr ⟨by rfl, rfl⟩) hHeld ?_; simp only [Act.put])
          | (refine wpAnyH_ready (rs := [14]) (by kernel_rfl) (by simp) ?_; refine AllReadyH.cons rfl (fun K hK => ?_) AllReadyH.nil; rw [if_neg (by decide)]; refine hK.out _ _ (hSw n5 m5) (fun hHeld => ?_); clear hK K; simp only [Act.put, List.setIfInBounds_toArray, List.set_cons_zero, List.set_cons_succ])
        refine wpAnyH_take (i := 15) (v := ?_) rfl (by kernel_rfl) (by kernel_rfl) (by kernel_rfl) (fun _ _ _ h => h) (Or.inl ⟨by rfl, ?_⟩) hHeld ?_
        rotate_left
        · intro w9 hSw
          (try dsimp only at hSw)
          go_simp
          try with_reducible rfl
        simp only [Act.put]
        refine wpAnyH_take (i := 16) (v := ?_) rfl (by kernel_rfl) (by kernel_rfl) (by kernel_rfl) (fun _ _ _ h => h) (Or.inl ⟨by rfl, ?_⟩) hHeld ?_
        rotate_left
        · intro w9 hSw
          (try dsimp only at hSw)
          go_simp
          try with_reducible rfl
        simp only [Act.put]
        refine wpAnyH_done (by kernel_rfl) ?_ _
        go_wp2_with fail
        go_meet
        exact ⟨rfl, hb45⟩
      · go_simp
        refine hK.out _ _ (hSw na ma) (fun hHeld => ?_)
        clear hK K
        try simp only [Act.put, List.setIfInBounds_toArray, List.set_cons_zero, List.set_cons_succ]
        refine wpAnyH_ready (rs := [2]) (by kernel_rfl) (by simp) ?_
        refine AllReadyH.cons rfl (fun K hK => ?_) AllReadyH.nil
        go_simp
        go_at_call 70; (refine (cloneC_any A n c cs (W0.alloc (.cells #[.int .u8 (ck.k.toNat : Int), .int .u8 (ck.f.toNat : Int), .slice B m d] 45)).drew hxa (by omega)).mono ?_); rintro e w2 ⟨A2, c2, ps, rfl, hown, hps, hpl, hbod, hb2⟩; have n2 := stays na hb2; have m2 := stays ma hb2; have x2 := stays xa hb2; have q2 := fun i => cell_of_row w2 w.heap.size i _ 43 (0, 0) n2; have r2 := fun i => cell_of_row w2 (w.heap.size + 1) i _ 45 (0, 0) m2; have hownA : w2.ownsRow (W0.alloc (.cells #[.int .u8 (ck.k.toNat : Int), .int .u8 (ck.f.toNat : Int), .slice B m d] 45)).drew.heap.size 45 3 (.slice A2 n c2) n (rowsV ps) := (by have h : OwnC w2 (W0.alloc (.cells #[.int .u8 (ck.k.toNat : Int), .int .u8 (ck.f.toNat : Int), .slice B m d] 45)).drew.heap.size (.slice A2 n c2) ps := hown; unfold OwnC at h; rw [hpl] at h; exact h)
        refine hK.out _ _ (hSw n2 m2) (fun hHeld => ?_)
        clear hK K
        try simp only [Act.put, List.setIfInBounds_toArray, List.set_cons_zero, List.set_cons_succ]
        refine wpAnyH_ready (rs := [5]) (by kernel_rfl) (by simp) ?_
        refine AllReadyH.cons rfl (fun K hK => ?_) AllReadyH.nil
        refine step_append_lies _ (by rfl) (.tmp 9) (.tmp 11) 41 (by rfl) (W0.alloc (.cells #[.int .u8 (ck.k.toNat : Int), .int .u8 (ck.f.toNat : Int), .slice B m d] 45)).drew.heap.size 45 i0 _ 3 32 Try.underlying41 hi0 hz0 hz1 hz2 rfl (by omega) (.slice A2 n c2) n (rowsV ps) (by rfl) hownA ⟨w.heap.size + 1 + 1, 0, none⟩ 1 1 [.int .u8 (ck.k.toNat : Int), .int .u8 (ck.f.toNat : Int), .slice B m d] (by rfl) (by rfl) (World.news_of_block (cs := #[.int .u8 (ck.k.toNat : Int), .int .u8 (ck.f.toNat : Int), .slice B m d]) (t := 45) (fr := (0, 0)) x2) (by simp [Value.oneCell']) (by omega) (by unfold maxLen; omega) (by omega) hb2.size w2.heap.size rfl ?_; intro gg cap w4 hown4 hg4 hat4 hlt4; obtain ⟨hk4, n4, m4, hb4⟩ := fits_grown ta hps hpl hownA hbod hb2 hg4 hown4 n2 m2 (by omega) hra hmd hd; have q4 := fun i => cell_of_row w4 w.heap.size i _ 43 (0, 0) n4; have r4 := fun i => cell_of_row w4 (w.heap.size + 1) i _ 45 (0, 0) m4
        refine hK.out _ _ (hSw n4 m4) (fun hHeld => ?_)
        clear hK K
        try simp only [Act.put, List.setIfInBounds_toArray]
        refine wpAnyH_ready (rs := [6]) (by kernel_rfl) (by simp) ?_
        refine AllReadyH.cons rfl (fun K hK => ?_) AllReadyH.nil
        go_simp
        go_at_call 69; (refine (may_any _ _ _ (cs ++ [ck]) _ hk4 (by omega)).mono ?_); rintro e w5 ⟨rfl, hb5⟩; rw [← HMV.out]; have n5 := stays n4 hb5; have m5 := stays m4 hb5; have q5 := fun i => cell_of_row w5 w.heap.size i _ 43 (0, 0) n5; have r5 := fun i => cell_of_row w5 (w.heap.size + 1) i _ 45 (0, 0) m5; have hb45 := hb4.trans (hb5.mono hb4.size); have hx5 := hx.below hb45
        refine hK.out _ _ (hSw n5 m5) (fun hHeld => ?_)
        clear hK K
        try simp only [Act.put, List.setIfInBounds_toArray, List.set_cons_zero, List.set_cons_succ]
        refine wpAnyH_take (i := 7) (v := ?_) rfl (by kernel_rfl) (by kernel_rfl) (by kernel_rfl) (fun _ _ _ h => h) (Or.inl ⟨by rfl, ?_⟩) hHeld ?_
        rotate_left
        · intro w9 hSw
          (try dsimp only at hSw)
          go_simp
          try with_reducible rfl
        simp only [Act.put, List.setIfInBounds_toArray]
        refine wpAnyH_take (i := 8) (v := undef) rfl (by kernel_rfl) (by kernel_rfl) (by kernel_rfl) (fun _ _ _ h => h) (Or.inr ⟨by rfl, rfl⟩) hHeld ?_
        simp only [Act.put]
        refine wpAnyH_take (i := 10) (v := undef) rfl (by kernel_rfl) (by kernel_rfl) (by kernel_rfl) (fun _ _ _ h => h) (Or.inr ⟨by rfl, rfl⟩) hHeld ?_
        simp only [Act.put]
        refine wpAnyH_take (i := 13) (v := undef) rfl (by kernel_rfl) (by kernel_rfl) (by kernel_rfl) (fun _ _ _ h => h) (Or.inr ⟨by rfl, rfl⟩) hHeld ?_
        simp only [Act.put]
        first
          | (refine wpAnyH_take (i := 9) (v := undef) rfl (by kernel_rfl) (by kernel_rfl) (by kernel_rfl) (fun _ _ _ h => h) (Or.inr ⟨by rfl, rfl⟩) hHeld ?_; simp only [Act.put])
          | (refine wpAnyH_ready (rs := [9]) (by kernel_rfl) (by simp) ?_; refine AllReadyH.cons rfl (fun K hK => ?_) AllReadyH.nil; rw [if_neg (by decide)]; refine hK.out _ _ (hSw n5 m5) (fun hHeld => ?_); clear hK K; simp only [Act.put, List.setIfInBounds_toArray, List.set_cons_zero, List.set_cons_succ])
        first
          | (refine wpAnyH_take (i := 11) (v := undef) rfl (by kernel_rfl) (by kernel_rfl) (by kernel_rfl) (fun _ _ _ h => h) (Or.inr ⟨by rfl, rfl⟩) hHeld ?_; simp only [Act.put])
          | (refine wpAnyH_ready (rs := [11]) (by kernel_rfl) (by simp) ?_; refine AllReadyH.cons rfl (fun K hK => ?_) AllReadyH.nil; rw [if_neg (by decide)]; refine hK.out _ _ (hSw n5 m5) (fun hHeld => ?_); clear hK K; simp only [Act.put, List.setIfInBounds_toArray, List.set_cons_zero, List.set_cons_succ])
        first
          | (refine wpAnyH_take (i := 12) (v := undef) rfl (by kernel_rfl) (by kernel_rfl) (by kernel_rfl) (fun _ _ _ h => h) (Or.inr ⟨by rfl, rfl⟩) hHeld ?_; simp only [Act.put])
          | (refine wpAnyH_ready (rs := [12]) (by kernel_rfl) (by simp) ?_; refine AllReadyH.cons rfl (fun K hK => ?_) AllReadyH.nil; rw [if_neg (by decide)]; refine hK.out _ _ (hSw n5 m5) (fun hHeld => ?_); clear hK K; simp only [Act.put, List.setIfInBounds_toArray, List.set_cons_zero, List.set_cons_succ])
        first
          | (refine wpAnyH_take (i := 14) (v := undef) rfl (by kernel_rfl) (by kernel_rfl) (by kernel_rfl) (fun _ _ _ h => h) (Or.inr ⟨by rfl, rfl⟩) hHeld ?_; simp only [Act.put])
          | (refine wpAnyH_ready (rs := [14]) (by kernel_rfl) (by simp) ?_; refine AllReadyH.cons rfl (fun K hK => ?_) AllReadyH.nil; rw [if_neg (by decide)]; refine hK.out _ _ (hSw n5 m5) (fun hHeld => ?_); clear hK K; simp only [Act.put, List.setIfInBounds_toArray, List.set_cons_zero, List.set_cons_succ])
        refine wpAnyH_take (i := 15) (v := ?_) rfl (by kernel_rfl) (by kernel_rfl) (by kernel_rfl) (fun _ _ _ h => h) (Or.inl ⟨by rfl, ?_⟩) hHeld ?_
        rotate_left
        · intro w9 hSw
          (try dsimp only at hSw)
          go_simp
          try with_reducible rfl
        simp only [Act.put]
        refine wpAnyH_take (i := 16) (v := ?_) rfl (by kernel_rfl) (by kernel_rfl) (by kernel_rfl) (fun _ _ _ h => h) (Or.inl ⟨by rfl, ?_⟩) hHeld ?_
        rotate_left
        · intro w9 hSw
          (try dsimp only at hSw)
          go_simp
          try with_reducible rfl
        simp only [Act.put]
        refine wpAnyH_done (by kernel_rfl) ?_ _
        go_wp2_with fail
        go_meet
        exact ⟨rfl, hb45⟩
    all_goals (
      go_region_held3 (fun w' => w'.cell? ⟨w.heap.size, 0, none⟩ = some (.int .u32 t) ∧ w'.cell? ⟨w.heap.size, 1, none⟩ = some (.slice A n c) ∧ w'.cell? ⟨w.heap.size + 1, 0, none⟩ = some (.int .u8 (ck.k.toNat : Int)) ∧ w'.cell? ⟨w.heap.size + 1, 1, none⟩ = some (.int .u8 (ck.f.toNat : Int)) ∧ w'.cell? ⟨w.heap.size + 1, 2, none⟩ = some (.slice B m d))
        (first | go_keep | (go_show; fail))
        (first
          | (go_at_call 70; (with_reducible refine (cloneC_any A n c cs W0.drew hxd (by omega)).mono ?_); rintro e w2 ⟨A2, c2, ps, rfl, hown, hps, hpl, hbod, hb2⟩; have n2 := stays nd hb2; have m2 := stays md hb2; have q2 := fun i => cell_of_row w2 w.heap.size i _ 43 (0, 0) n2; have r2 := fun i => cell_of_row w2 (w.heap.size + 1) i _ 45 (0, 0) m2; have hl2 := lt_of_heap n2; have ne2 : w2.heap.size ≠ w.heap.size := Nat.ne_of_gt hl2; have hm2 := lt_of_heap m2; have me2 : w2.heap.size ≠ w.heap.size + 1 := Nat.ne_of_gt hm2; have hownM : OwnC w2 W0.drew.heap.size (.slice A2 n c2) ps := hown; have hownA : (w2.alloc (.cells #[.int .u8 (ck.k.toNat : Int), .int .u8 (ck.f.toNat : Int), .slice B m d] 45)).ownsRow W0.drew.heap.size 45 3 (.slice A2 n c2) n (rowsV ps) := (by have h := hownM.alloc (.cells #[.int .u8 (ck.k.toNat : Int), .int .u8 (ck.f.toNat : Int), .slice B m d] 45); rw [hpl] at h; exact h); have hbs : W0.drew.heap.size ≤ (w2.alloc (.cells #[.int .u8 (ck.k.toNat : Int), .int .u8 (ck.f.toNat : Int), .slice B m d] 45)).heap.size := (by have h := hb2.size; simp; exact Nat.le_succ_of_le h); have hbL := hb2.alloc hb2.size (.cells #[.int .u8 (ck.k.toNat : Int), .int .u8 (ck.f.toNat : Int), .slice B m d] 45); have nL := (Below.heap_alloc w2 (.cells #[.int .u8 (ck.k.toNat : Int), .int .u8 (ck.f.toNat : Int), .slice B m d] 45) w.heap.size hl2).trans n2; have mL := (Below.heap_alloc w2 (.cells #[.int .u8 (ck.k.toNat : Int), .int .u8 (ck.f.toNat : Int), .slice B m d] 45) (w.heap.size + 1) hm2).trans m2)
          | (go_at_call 70; (with_reducible refine (cloneC_any A n c cs (W0.alloc (.cells #[.int .u8 (ck.k.toNat : Int), .int .u8 (ck.f.toNat : Int), .slice B m d] 45)).drew hxa (by omega)).mono ?_); rintro e w2 ⟨A2, c2, ps, rfl, hown, hps, hpl, hbod, hb2⟩; have n2 := stays na hb2; have m2 := stays ma hb2; have x2 := stays xa hb2; have q2 := fun i => cell_of_row w2 w.heap.size i _ 43 (0, 0) n2; have r2 := fun i => cell_of_row w2 (w.heap.size + 1) i _ 45 (0, 0) m2; have hownA : w2.ownsRow (W0.alloc (.cells #[.int .u8 (ck.k.toNat : Int), .int .u8 (ck.f.toNat : Int), .slice B m d] 45)).drew.heap.size 45 3 (.slice A2 n c2) n (rowsV ps) := (by have h : OwnC w2 (W0.alloc (.cells #[.int .u8 (ck.k.toNat : Int), .int .u8 (ck.f.toNat : Int), .slice B m d] 45)).drew.heap.size (.slice A2 n c2) ps := hown; unfold OwnC at h; rw [hpl] at h; exact h))
          | (refine step_append_lies _ (by rfl) (.tmp 9) (.tmp 11) 41 (by rfl) W0.drew.heap.size 45 i0 _ 3 32 Try.underlying41 hi0 hz0 hz1 hz2 rfl (by omega) (.slice A2 n c2) n (rowsV ps) (by rfl) hownA ⟨w2.heap.size, 0, none⟩ 1 1 [.int .u8 (ck.k.toNat : Int), .int .u8 (ck.f.toNat : Int), .slice B m d] (by rfl) (by rfl) (World.news_of_block (cs := #[.int .u8 (ck.k.toNat : Int), .int .u8 (ck.f.toNat : Int), .slice B m d]) (t := 45) (fr := (0, 0)) (heap_alloc_new w2 _)) (by simp [Value.oneCell']) (by omega) (by unfold maxLen; omega) (by omega) hbs (w2.heap.size + 1) (by simp) ?_; intro gg cap w4 hown4 hg4 hat4 hlt4; obtain ⟨hk4, n4, m4, hb4⟩ := fits_grown td hps hpl hownA hbod hbL hg4 hown4 nL mL hh1 hrd hmd hd; have q4 := fun i => cell_of_row w4 w.heap.size i _ 43 (0, 0) n4; have r4 := fun i => cell_of_row w4 (w.heap.size + 1) i _ 45 (0, 0) m4)
          | (refine step_append_lies _ (by rfl) (.tmp 9) (.tmp 11) 41 (by rfl) (W0.alloc (.cells #[.int .u8 (ck.k.toNat : Int), .int .u8 (ck.f.toNat : Int), .slice B m d] 45)).drew.heap.size 45 i0 _ 3 32 Try.underlying41 hi0 hz0 hz1 hz2 rfl (by omega) (.slice A2 n c2) n (rowsV ps) (by rfl) hownA ⟨w.heap.size + 1 + 1, 0, none⟩ 1 1 [.int .u8 (ck.k.toNat : Int), .int .u8 (ck.f.toNat : Int), .slice B m d] (by rfl) (by rfl) (World.news_of_block (cs := #[.int .u8 (ck.k.toNat : Int), .int .u8 (ck.f.toNat : Int), .slice B m d]) (t := 45) (fr := (0, 0)) x2) (by simp [Value.oneCell']) (by omega) (by unfold maxLen; omega) (by omega) hb2.size w2.heap.size rfl ?_; intro gg cap w4 hown4 hg4 hat4 hlt4; obtain ⟨hk4, n4, m4, hb4⟩ := fits_grown ta hps hpl hownA hbod hb2 hg4 hown4 n2 m2 (by omega) hra hmd hd; have q4 := fun i => cell_of_row w4 w.heap.size i _ 43 (0, 0) n4; have r4 := fun i => cell_of_row w4 (w.heap.size + 1) i _ 45 (0, 0) m4)
          | (go_at_call 69; (with_reducible refine (may_any _ _ _ (cs ++ [ck]) _ hk4 (by omega)).mono ?_); rintro e w5 ⟨rfl, hb5⟩; rw [← HMV.out]; have n5 := stays n4 hb5; have m5 := stays m4 hb5; have q5 := fun i => cell_of_row w5 w.heap.size i _ 43 (0, 0) n5; have r5 := fun i => cell_of_row w5 (w.heap.size + 1) i _ 45 (0, 0) m5; have hb45 := hb4.trans (hb5.mono hb4.size); have hx5 := hx.below hb45)
          | (go_at_call 55; (with_reducible refine (size10_any t A n c cs _ hx5 (by omega) HS.out).mono ?_); rintro e w6 ⟨rfl, hb6⟩; have n6 := stays n5 hb6; have m6 := stays m5 hb6; have q6 := fun i => cell_of_row w6 w.heap.size i _ 43 (0, 0) n6; have r6 := fun i => cell_of_row w6 (w.heap.size + 1) i _ 45 (0, 0) m6; have hb46 := hb45.trans (hb6.mono hb45.size))
          | (go_at_call 71; (with_reducible refine (cksize_any _ _ B m d _ hm).mono ?_); rintro e w7 ⟨rfl, hb7⟩; have n7 := stays n6 hb7; have m7 := stays m6 hb7; have q7 := fun i => cell_of_row w7 w.heap.size i _ 43 (0, 0) n7; have r7 := fun i => cell_of_row w7 (w.heap.size + 1) i _ 45 (0, 0) m7; have hb47 := hb46.trans (hb7.mono hb46.size))
          | fail)
      all_goals (
        go_wp2_with fail
        go_meet
        exact ⟨by rw [HWR.out]; rfl, hb47⟩))
  case rest =>
    obtain ⟨rfl, hb9⟩ := hcut
    go_wp2
    go_ret
    exact ⟨by rw [HMV.out]; rfl, hb9⟩
end Go.Proofs.Ythndlhflkbidiaa
