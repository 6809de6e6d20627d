/- The reference's Fits. -/
import Derived.Test.YthndlhflkbidiaaFitW
namespace Go.Proofs.Ythndlhflkbidiaa
open Go Go.RowKit

theorem sizeB_snoc (cs : List Ck) (ck : Ck) : sizeB (cs ++ [ck]) = sizeB cs + ckN ck := by
  unfold sizeB
  rw [List.map_append, List.sum_append]
  simp
  omega
theorem cells_one {W : World} {g : Nat} {ck : Ck} {B : Option Addr} {d : Nat} {m : Nat} (hm : ck.xs.length = m) (h : W.heap[g]? = some (.cells #[.int .u8 (ck.k.toNat : Int), .int .u8 (ck.f.toNat : Int), .slice B m d] 45 (0, 0))) :
    ∀ j u, (rowsV [(⟨ck, B, d⟩ : Cp)])[j]? = some u → W.cell? ((⟨g, 0, none⟩ : Addr).add j) = some u := by
  subst hm
  exact cells_block (vs := rowsV [(⟨ck, B, d⟩ : Cp)]) h

set_option maxRecDepth 100000 in
set_option maxHeartbeats 1600000 in
theorem fitsR_any (t : Int) (A : Option Addr) (n c : Nat) (cs : List Ck) (ck : Ck) (B : Option Addr) (m d : Nat) (mtu : Int) (w : World) (hx : Cks w A n cs) (hr : Rd w B m ck.xs) (hmd : m ≤ d) (hd : d ≤ 9223372036854775807) (hn : n ≤ 999) (hl : ∀ c ∈ cs, c.xs.length ≤ 1000000) (hm : m ≤ 1000000) :
    Calls Try.prog 43 #[.agg #[.int .u32 t, .slice A n c], .agg #[.int .u8 (ck.k.toNat : Int), .int .u8 (ck.f.toNat : Int), .slice B m d], .int .i64 mtu] w fun e w' => e = .returned (.bool (fitsB cs ck mtu)) ∧ Below w.heap.size w w' := by
  have HL := Lib.hid hx.len
  have hrl := hr.len
  have HR := Lib.hid hrl
  have HS := Lib.hid (show ∀ c ∈ cs ++ [ck], c.xs.length ≤ 1000000 from fun c hc => by
    rcases List.mem_append.1 hc with hc | hc
    · exact hl c hc
    · obtain rfl : c = ck := by simpa using hc
      omega)
  have hh := row45_heap w (.int .u32 t) (.slice A n c) (.int .u8 (ck.k.toNat : Int)) (.int .u8 (ck.f.toNat : Int)) (.slice B m d)
  have t0 : Below w.heap.size w ((w.alloc (.cells #[.int .u32 t, .slice A n c] 43)).alloc (.cells #[.int .u8 (ck.k.toNat : Int), .int .u8 (ck.f.toNat : Int), .slice B m d] 45)) := ((Below.refl _ _).alloc (Nat.le_refl _) _).alloc (by simp) _
  have hx0 := (hx.alloc (.cells #[.int .u32 t, .slice A n c] 43)).alloc (.cells #[.int .u8 (ck.k.toNat : Int), .int .u8 (ck.f.toNat : Int), .slice B m d] 45)
  have hr0 := (hr.alloc (.cells #[.int .u32 t, .slice A n c] 43)).alloc (.cells #[.int .u8 (ck.k.toNat : Int), .int .u8 (ck.f.toNat : Int), .slice B m d] 45)
  have hs0 : ((w.alloc (.cells #[.int .u32 t, .slice A n c] 43)).alloc (.cells #[.int .u8 (ck.k.toNat : Int), .int .u8 (ck.f.toNat : Int), .slice B m d] 45)).heap.size = w.heap.size + 1 + 1 := by simp
  obtain ⟨mv, hmv⟩ : ∃ v, v = mayB (cs ++ [ck]) := ⟨_, rfl⟩
  have HMV := Lib.hid hmv
  clear hl hmv hrl
  obtain ⟨ps, hps, hpl, hbod, hcell⟩ := hx0.rows
  have HPS := Lib.hid hps
  have HBOD := Lib.hid hbod
  clear hps hbod
  generalize hW0 : (w.alloc (.cells #[.int .u32 t, .slice A n c] 43)).alloc (.cells #[.int .u8 (ck.k.toNat : Int), .int .u8 (ck.f.toNat : Int), .slice B m d] 45) = W0 at *
  have fin : ∀ (w4 : World) (A4 : Option Addr) (c4 : Nat), OwnC w4 (w.heap.size + 1 + 1) (.slice A4 (n + 1) c4) (ps ++ [⟨ck, B, d⟩]) → Below (w.heap.size + 1 + 1) W0 w4 → Cks w4 A4 (n + 1) (cs ++ [ck]) := fun w4 A4 c4 ho hb => by
    have hb' : Below W0.heap.size W0 w4 := by rw [hs0]; exact hb
    have bo : ∀ p ∈ ps ++ [(⟨ck, B, d⟩ : Cp)], BodyOk w4 p := fun p hp => by
      rcases List.mem_append.1 hp with hp | hp
      · exact (HBOD.out p hp).below hb'
      · obtain rfl : p = ⟨ck, B, d⟩ := by simpa using hp
        exact ⟨by rw [HR.out]; exact hr0.below hb', by rw [HR.out]; exact hmd, hd⟩
    have h := (ho.cks bo).2
    rw [List.map_append, HPS.out, List.length_append, hpl] at h
    exact h
  have FIN := Lib.hid fin
  clear fin
  have fin2 : ∀ w2 : World, Below (w.heap.size + 1 + 1) W0 w2 → ∀ w4 : World, Below (w.heap.size + 1 + 1) w2 w4 → Below w.heap.size w w4 := fun w2 h2 w4 h4 => t0.trans ((h2.trans h4).mono (by omega))
  have FIN2 := Lib.hid fin2
  clear fin2
  subst hpl
  have tail : ∀ (w2 : World) (A2 : Option Addr) (c2 : Nat), OwnC w2 (w.heap.size + 1 + 1) (.slice A2 ps.length c2) ps → Below (w.heap.size + 1 + 1) W0 w2 →
      w2.heap[w.heap.size]? = some (.cells #[.int .u32 t, .slice A ps.length c] 43 (0, 0)) ∧ w2.heap[w.heap.size + 1]? = some (.cells #[.int .u8 (ck.k.toNat : Int), .int .u8 (ck.f.toNat : Int), .slice B m d] 45 (0, 0)) ∧ w.heap.size + 1 + 1 ≤ w2.heap.size := fun w2 A2 c2 _ h2 => by
    refine ⟨(h2.block _ (by omega)).trans hh.1, (h2.block _ (by omega)).trans hh.2, ?_⟩
    have := h2.size
    omega
  have TAIL := Lib.hid tail
  clear tail hx0 hr0
  go_enter Try.func43, Try.ntmps43
  go_upto_region 2 with fail
  try rw [hW0]
  clear hW0
  have b0 := hh.1
  have b1 := hh.2
  have g0 := fun i => cell_of_row W0 w.heap.size i _ 43 (0, 0) b0
  have g1 := fun i => cell_of_row W0 (w.heap.size + 1) i _ 45 (0, 0) b1
  cases A with
  | none =>
    have hn0 : ps.length = 0 := by
      rcases Nat.eq_zero_or_pos ps.length with h | h
      · exact h
      · obtain ⟨b, off, e, _⟩ := hx.2 h
        cases e
    have hps0 : ps = [] := List.eq_nil_of_length_eq_zero hn0
    subst hps0
    go_upto_region 3 with fail
    have hown0 : OwnC W0 (w.heap.size + 1 + 1) (.slice none 0 0) [] := ownC_nil _ _
    clear g0 g1
    obtain ⟨n2, m2, hs2⟩ := TAIL.out W0 _ _ hown0 (Below.refl _ _)
    have q2 := fun i => cell_of_row W0 w.heap.size i _ 43 (0, 0) n2
    have r2 := fun i => cell_of_row W0 (w.heap.size + 1) i _ 45 (0, 0) m2
    have hownA : OwnC (W0.alloc (.cells #[.int .u8 (ck.k.toNat : Int), .int .u8 (ck.f.toNat : Int), .slice B m d] 45)) (w.heap.size + 1 + 1) _ [] := (hown0 : OwnC W0 (w.heap.size + 1 + 1) (.slice none 0 0) []).alloc (.cells #[.int .u8 (ck.k.toNat : Int), .int .u8 (ck.f.toNat : Int), .slice B m d] 45)
    have news := cells_one HR.out (heap_alloc_new W0 (.cells #[.int .u8 (ck.k.toNat : Int), .int .u8 (ck.f.toNat : Int), .slice B m d] 45))
    have nA := (Below.heap_alloc W0 (.cells #[.int .u8 (ck.k.toNat : Int), .int .u8 (ck.f.toNat : Int), .slice B m d] 45) w.heap.size (lt_of_heap n2)).trans n2
    have mA := (Below.heap_alloc W0 (.cells #[.int .u8 (ck.k.toNat : Int), .int .u8 (ck.f.toNat : Int), .slice B m d] 45) (w.heap.size + 1) (lt_of_heap m2)).trans m2
    have hA := ((Below.refl _ _) : Below (w.heap.size + 1 + 1) W0 W0).alloc hs2 (.cells #[.int .u8 (ck.k.toNat : Int), .int .u8 (ck.f.toNat : Int), .slice B m d] 45)
    have hlo := fun g e => (hownA.lt g e).1
    clear hs0
    cases mv
    all_goals (
      go_wp2_with (first
        | (at_builtin; refine wpList_chunks _ rfl (.tmp 12) (.tmp 14) rfl (w.heap.size + 1 + 1) _ [] [⟨ck, B, d⟩] rfl hownA ⟨W0.heap.size, 0, none⟩ 1 1 rfl rfl news (by simp <;> omega) (by simp <;> omega) ?_; intro A4 c4 w4 hown4 hg4; have hb4 := hA.grown hg4 (by simp <;> omega) (fun g e => hlo g e); have hk4 := FIN.out w4 A4 c4 (by simpa using hown4) hb4; have n4 := (hb4.block w.heap.size (by omega)).trans b0; have m4 := (hb4.block (w.heap.size + 1) (by omega)).trans b1; have q4 := fun i => cell_of_row w4 w.heap.size i _ 43 (0, 0) n4; have r4 := fun i => cell_of_row w4 (w.heap.size + 1) i _ 45 (0, 0) m4; have t4 := FIN2.out W0 (Below.refl _ _) w4 hb4)
        | (go_at_call 72; refine (may10R_any _ _ _ (cs ++ [ck]) _ hk4 (by omega)).mono ?_; rintro e w5 ⟨rfl, rfl⟩; rw [← HMV.out])
        | (go_at_call 57; refine (size10R_any 0 _ _ _ (cs ++ [ck]) _ hk4 (by simp <;> omega) HS.out).mono ?_; rintro e w6 ⟨rfl, hb6⟩)
        | fail)
      go_ret
      first
        | exact ⟨by unfold fitsB; rw [← HMV.out]; rfl, t4⟩
        | exact ⟨by unfold fitsB; rw [← HMV.out, sizeB_snoc]; simp, t4.trans (hb6.mono t4.size)⟩)
  | some a =>
    go_upto_region 3 with (at_builtin; refine wpList_chunks _ rfl (.tmp 8) (.tmp 10) rfl (w.heap.size + 1 + 1) (.slice none 0 0) [] ps rfl (ownC_nil _ _) a ps.length c rfl rfl (hcell a rfl) (by simp <;> omega) (by omega) ?_; intro A2 c2 w2 hown hg; have h2 : Below (w.heap.size + 1 + 1) W0 w2 := (Below.refl _ _).grown hg (by omega) (fun g e => by simp [Value.ownBlock] at e))
    simp only [List.length_nil, Nat.zero_add, List.nil_append] at hown
    clear g0 g1
    obtain ⟨n2, m2, hs2⟩ := TAIL.out w2 _ _ hown h2
    have q2 := fun i => cell_of_row w2 w.heap.size i _ 43 (0, 0) n2
    have r2 := fun i => cell_of_row w2 (w.heap.size + 1) i _ 45 (0, 0) m2
    have hownA : OwnC (w2.alloc (.cells #[.int .u8 (ck.k.toNat : Int), .int .u8 (ck.f.toNat : Int), .slice B m d] 45)) (w.heap.size + 1 + 1) _ ps := (hown : OwnC w2 (w.heap.size + 1 + 1) (.slice A2 ps.length c2) ps).alloc (.cells #[.int .u8 (ck.k.toNat : Int), .int .u8 (ck.f.toNat : Int), .slice B m d] 45)
    have news := cells_one HR.out (heap_alloc_new w2 (.cells #[.int .u8 (ck.k.toNat : Int), .int .u8 (ck.f.toNat : Int), .slice B m d] 45))
    have nA := (Below.heap_alloc w2 (.cells #[.int .u8 (ck.k.toNat : Int), .int .u8 (ck.f.toNat : Int), .slice B m d] 45) w.heap.size (lt_of_heap n2)).trans n2
    have mA := (Below.heap_alloc w2 (.cells #[.int .u8 (ck.k.toNat : Int), .int .u8 (ck.f.toNat : Int), .slice B m d] 45) (w.heap.size + 1) (lt_of_heap m2)).trans m2
    have hA := (h2 : Below (w.heap.size + 1 + 1) W0 w2).alloc hs2 (.cells #[.int .u8 (ck.k.toNat : Int), .int .u8 (ck.f.toNat : Int), .slice B m d] 45)
    have hlo := fun g e => (hownA.lt g e).1
    clear hs0
    cases mv
    all_goals (
      go_wp2_with (first
        | (at_builtin; refine wpList_chunks _ rfl (.tmp 12) (.tmp 14) rfl (w.heap.size + 1 + 1) _ ps [⟨ck, B, d⟩] rfl hownA ⟨w2.heap.size, 0, none⟩ 1 1 rfl rfl news (by simp <;> omega) (by simp <;> omega) ?_; intro A4 c4 w4 hown4 hg4; have hb4 := hA.grown hg4 (by simp <;> omega) (fun g e => hlo g e); have hk4 := FIN.out w4 A4 c4 (by simpa using hown4) hb4; have n4 := (hb4.block w.heap.size (by omega)).trans b0; have m4 := (hb4.block (w.heap.size + 1) (by omega)).trans b1; have q4 := fun i => cell_of_row w4 w.heap.size i _ 43 (0, 0) n4; have r4 := fun i => cell_of_row w4 (w.heap.size + 1) i _ 45 (0, 0) m4; have t4 := FIN2.out W0 (Below.refl _ _) w4 hb4)
        | (go_at_call 72; refine (may10R_any _ _ _ (cs ++ [ck]) _ hk4 (by omega)).mono ?_; rintro e w5 ⟨rfl, rfl⟩; rw [← HMV.out])
        | (go_at_call 57; refine (size10R_any 0 _ _ _ (cs ++ [ck]) _ hk4 (by simp <;> omega) HS.out).mono ?_; rintro e w6 ⟨rfl, hb6⟩)
        | fail)
      go_ret
      first
        | exact ⟨by unfold fitsB; rw [← HMV.out]; rfl, t4⟩
        | exact ⟨by unfold fitsB; rw [← HMV.out, sizeB_snoc]; simp, t4.trans (hb6.mono t4.size)⟩)
end Go.Proofs.Ythndlhflkbidiaa
