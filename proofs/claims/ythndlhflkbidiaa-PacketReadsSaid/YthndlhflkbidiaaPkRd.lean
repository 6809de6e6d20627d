/- packet.Read: the packet of bytes: what it answers ahead of its chunks. -/
import Derived.Test.YthndlhflkbidiaaPkRdI
import Derived.Test.YthndlhflkbidiaaPkWr
import Derived.Test.YthndlhflkbidiaaEqS
import Derived.Deep.RegionHeld3
namespace Go.Proofs.Ythndlhflkbidiaa
open Go Go.RowKit

theorem info43 : (Try.prog.info? 43).map (·.size) = some 2 := by kernel_rfl
theorem res59 {W : World} {tmps : Array Value} {g : Nat} {a b c : Value} (t2 : tmps.getD 2 undef = .pointer (some ⟨g, 0, none⟩)) (t3 : tmps.getD 3 undef = .pointer (some ⟨g + 1, 0, none⟩))
    (h1 : W.heap[g]? = some (.cells #[a, b] 43 (0, 0))) (h2 : W.heap[g + 1]? = some (.cells #[c] 26 (0, 0))) :
    (results Try.f59 tmps).run Try.prog W = .ok (.tuple #[.agg #[a, b], c]) W := by
  have t2' : tmps[2]?.getD undef = .pointer (some ⟨g, 0, none⟩) := by simpa using t2
  have t3' : tmps[3]?.getD undef = .pointer (some ⟨g + 1, 0, none⟩) := by simpa using t3
  have e1 := run_loadVar_row (P := Try.prog) W g 43 43 #[a, b] (0, 0) _ h1 Try.underlying43 rfl info43
  have e2 : (loadVar 26 ⟨g + 1, 0, none⟩).run Try.prog W = .ok c W := by
    have := cell_of_one h2
    simp [go_sem, this]
  simp [results, t2', t3', asAddr, e1, e2]
theorem out59 {w1 : World} {g : Nat} {x y a b d u : Value} (h1 : w1.heap[g]? = some (.cells #[x, y] 43 (0, 0))) (h2 : w1.heap[g + 1]? = some (.cells #[u] 26 (0, 0))) :
    (((w1.setCell ⟨g, 0, none⟩ a).setCell ⟨g, 1, none⟩ b).setCell ⟨g + 1, 0, none⟩ d).heap[g]? = some (.cells #[a, b] 43 (0, 0)) ∧
    (((w1.setCell ⟨g, 0, none⟩ a).setCell ⟨g, 1, none⟩ b).setCell ⟨g + 1, 0, none⟩ d).heap[g + 1]? = some (.cells #[d] 26 (0, 0)) := by
  constructor
  · rw [Below.heap_setCell _ _ _ _ (by simp)]
    have e1 := heap_setCell_same w1 g 0 _ 43 a h1
    exact heap_setCell_same _ g 1 _ 43 b e1
  · refine one_setCell (v := u) ?_
    rw [Below.heap_setCell _ _ _ _ (by simp), Below.heap_setCell _ _ _ _ (by simp)]
    exact h2

/-- What packet.Read answers. -/
def PkOut (w : World) (b : List UInt8) (e : Ending) (w' : World) : Prop :=
  ∃ A n c ps, e = .returned (.tuple #[.agg #[.int .u32 (pkTag b : Int), .slice A n c], .int .i64 (pkErr b : Int)]) ∧ OwnC w' w.heap.size (.slice A n c) ps ∧ ps.map (·.c) = pkCks b ∧ Bodies w' w.heap.size ps ∧ Below w.heap.size w w'
theorem PkOut.bad {w : World} {b : List UInt8} {e : Ending} {w' : World} {k : Nat} (he : pkErr b = k) (h0 : k ≠ 0)
    (h : e = .returned (.tuple #[.agg #[.int .u32 0, .slice none 0 0], .int .i64 (k : Int)]) ∧ Below w.heap.size w w') : PkOut w b e w' := by
  obtain ⟨h1, h2⟩ := pkCks_bad (b := b) (by omega)
  refine ⟨none, 0, 0, [], ?_, ownC_nil _ _, by rw [h1]; rfl, Bodies.nil _ _, h.2⟩
  rw [h2, he]
  exact h.1

attribute [local go_sem] Oper.semAt_some
theorem two_heap (w : World) (a b c : Value) :
    ((w.alloc (.cells #[a, b] 43)).alloc (.cells #[c] 26)).heap[w.heap.size]? = some (.cells #[a, b] 43 (0, 0)) ∧
    ((w.alloc (.cells #[a, b] 43)).alloc (.cells #[c] 26)).heap[w.heap.size + 1]? = some (.cells #[c] 26 (0, 0)) := by
  constructor
  · rw [Below.heap_alloc _ _ _ (by simp)]
    exact heap_alloc_new w _
  · have := heap_alloc_new (w.alloc (.cells #[a, b] 43)) (.cells #[c] 26)
    simpa using this
theorem two_below (w : World) (a b c : Value) : Below w.heap.size w ((w.alloc (.cells #[a, b] 43)).alloc (.cells #[c] 26)) := ((Below.refl _ _).alloc (Nat.le_refl _) _).alloc (by simp) _

theorem pkrd_short (A : Option Addr) (N C : Nat) (w : World) (h : N < 12) :
    Calls Try.prog 59 #[.slice A N C] w fun e w' => e = .returned (.tuple #[.agg #[.int .u32 0, .slice none 0 0], .int .i64 7]) ∧ Below w.heap.size w w' := by
  have h' : (N : Int) < 12 := by omega
  go_enter Try.func59, Try.ntmps59
  go_wp2
  have o := two_heap w (.int .u32 0) (.slice none 0 0) (.int .i64 7)
  refine bodyPost_ret (v := .tuple #[.agg #[.int .u32 0, .slice none 0 0], .int .i64 7]) (by rw [res59 (g := w.heap.size) rfl rfl o.1 o.2]) rfl ⟨rfl, two_below _ _ _ _⟩
theorem chunks_any (A : Option Addr) (m d : Nat) (w : World) :
    Calls Try.prog 78 #[.slice A m d] w fun e w' => e = .returned (.func (.func 84) #[] #[.pointer (some ⟨w.heap.size, 0, none⟩)]) ∧ w' = w.alloc (.cells #[.slice A m d] 22) := by
  go_enter Try.func78, Try.ntmps78
  go_wp2
  go_ret
  exact ⟨rfl, rfl⟩

/-- Does the sum fit? -/
def sumB (b : List UInt8) : Bool := eqB (nb (pkS b) 4) ((b.drop 8).take 4)
theorem sumB_iff {b : List UInt8} (h : 12 ≤ b.length) : sumB b = true ↔ be ((b.drop 8).take 4) = pkS b := by
  have hl : ((b.drop 8).take 4).length = 4 := by simp; omega
  unfold sumB eqB
  rw [decide_eq_true_iff]
  constructor
  · intro e
    rw [← e, be_nb]
    exact Nat.mod_eq_of_lt (pkS_lt b)
  · intro e
    rw [← e]
    exact nb_be' _ 4 hl

/-- What stands when the sums are held against each other. -/
structure Rd0 (w wx : World) : Prop where
  below : Below w.heap.size w wx
  r0 : wx.heap[w.heap.size]? = some (.cells #[.int .u32 0, .slice none 0 0] 43 (0, 0))
  r1 : wx.heap[w.heap.size + 1]? = some (.cells #[.int .i64 0] 26 (0, 0))
theorem Rd0.new (w : World) : Rd0 w ((w.alloc (.cells #[.int .u32 0, .slice none 0 0] 43)).alloc (.cells #[.int .i64 0] 26)) := ⟨two_below _ _ _ _, (two_heap _ _ _ _).1, (two_heap _ _ _ _).2⟩
theorem Rd0.later {w wx wy : World} (h : Rd0 w wx) (hb : Below wx.heap.size wx wy) : Rd0 w wy := ⟨h.below.trans (hb.mono h.below.size), stays h.r0 hb, stays h.r1 hb⟩
theorem Rd0.drewN {w wx : World} (h : Rd0 w wx) (k : Nat) : Rd0 w (wx.drewN k) := ⟨below_drewN h.below k, h.r0, h.r1⟩

theorem Rd0.drew {w wx : World} (h : Rd0 w wx) : Rd0 w wx.drew := ⟨h.below.drew, h.r0, h.r1⟩

set_option maxRecDepth 100000 in
set_option maxHeartbeats 4000000 in
theorem pkrd_main (A : Option Addr) (N C : Nat) (b : List UInt8) (w : World) (hx : Rd w A N b) (hNC : N ≤ C) (hC : C ≤ 9223372036854775807) (hN : N ≤ 1000000) (h12 : 12 ≤ N) :
    Calls Try.prog 59 #[.slice A N C] w (PkOut w b) := by
  have h' : ¬ (N : Int) < 12 := by omega
  have hlen := Lib.hid hx.len
  obtain ⟨sv, hs⟩ : ∃ v, v = sumB b := ⟨_, rfl⟩
  have HS := Lib.hid hs
  have hc12 : (12 : Int) ≤ (C : Int) := by omega
  have hc8 : ¬ C = 8 := by omega
  have H0 := Rd0.new w
  have hx0 := hx.below (two_below w (.int .u32 0) (.slice none 0 0) (.int .i64 0))
  have HC := Lib.hid (show ∀ W, Below w.heap.size w W → ∀ B, (B = if C = 8 then A else A.map (·.add 8)) → Rd W B 4 ((b.drop 8).take 4) from fun W hb B hB => (hx.below hb).cut (k := 8) (m := 4) (by omega) hNC B hB)
  clear hs
  refine callsIn_wide.1 (callsIn_of_wp_marks (F := Fence.wide) (n := 8) Try.func59 rfl trivial ?_ rfl)
  simp only [Try.ntmps59, List.size_toArray, List.length_cons, List.length_nil, Nat.reduceAdd, Nat.reduceSub, Array.replicate_succ, Array.replicate_zero, List.push_toArray, List.append_toArray, List.nil_append, List.cons_append]
  refine wpIn_wide.2 ?_
  go_upto_region 3 with fail
  go_cut [22] from 17 to 22 (fun x wx => x = .bool (!sv) ∧ Rd0 w wx)
  case first =>
    refine wp_region_noPanic ?_
    go_region_with (first
      | (go_at_call 73; refine (sum10_any A N C b _ (by exact hx0) h12 hNC hC (by omega)).mono ?_; rintro e w1 ⟨A1, c1, rfl, hB1, hb1⟩; have t1 := (two_below w (.int .u32 0) (.slice none 0 0) (.int .i64 0)).drew.trans (hb1.mono (by simp; omega)))
      | (go_at_call 77; refine (equal_any _ _ 4 _ _ (nb (pkS b) 4) ((b.drop 8).take 4) _ hB1.rd (HC.out _ t1 _ (by simp [hc8, Addr.add])) (by omega)).mono ?_; rintro e w2 ⟨rfl, kq, rfl⟩; rw [show eqB (nb (pkS b) 4) ((b.drop 8).take 4) = sv from HS.out.symm]))
    all_goals (
      refine NoPanic.normal ?_
      go_wp2_with fail
      go_meet
      exact ⟨rfl, (H0.drew.later hb1).drewN kq⟩)
  case rest =>
    obtain ⟨rfl, H1⟩ := hcut
    have hbl := H1.below
    have hr0 := H1.r0
    have hr1 := H1.r1
    cases sv
    · have hne : pkErr b = 8 := pkErr_sum (by rw [hlen.out]; omega) (fun e => by
        have := (sumB_iff (b := b) (by rw [hlen.out]; exact h12)).2 e
        rw [← HS.out] at this
        cases this)
      have HNE := Lib.hid hne
      have q0 := fun i => cell_of_row wc w.heap.size i _ 43 (0, 0) hr0
      have f0 := fun i => frozen_of_row wc w.heap.size i _ 43 hr0
      have q1 := cell_of_one hr1
      have z1 := free_of_one hr1
      clear hne
      have o := out59 (a := .int .u32 0) (b := .slice none 0 0) (d := .int .i64 8) hr0 hr1
      have HO := Lib.hid o
      clear o
      go_wp2
      refine ⟨.tuple #[.agg #[.int .u32 0, .slice none 0 0], .int .i64 8], by rw [res59 (g := w.heap.size) rfl rfl HO.out.1 HO.out.2], PkOut.bad HNE.out (by omega) ⟨rfl, ?_⟩⟩
      exact ((hbl.setCell (p := ⟨w.heap.size, 0, none⟩) (by simp) _).setCell (p := ⟨w.heap.size, 1, none⟩) (by simp) _).setCell (p := ⟨w.heap.size + 1, 0, none⟩) (by simp) _
    · obtain ⟨wo, rfl⟩ : ∃ wo : World, wo = wc := ⟨_, rfl⟩
      have hsum : be ((b.drop 8).take 4) = pkS b := (sumB_iff (b := b) (by rw [hlen.out]; exact h12)).1 HS.out.symm
      have HSUM := Lib.hid hsum
      have hx1 := hx.below hbl
      have hl3 : ((b.drop 4).take 4).length = 4 := by simp [hlen.out]; omega
      have htl := be4_lt _ hl3
      clear hsum hl3
      go_wp2_with fail
      refine (get_yes A N C b 0 2 wo hx1 (by decide) (by omega) (by omega)).mono ?_
      rintro e w' ⟨rfl, rfl⟩
      rw [List.drop_zero]
      go_wp2_with fail
      refine (get_yes A N C b 2 2 _ hx1 (by decide) (by omega) (by omega)).mono ?_
      rintro e w' ⟨rfl, rfl⟩
      go_wp2_with fail
      refine (get_yes A N C b 4 4 _ hx1 (by decide) (by omega) (by omega)).mono ?_
      rintro e w' ⟨rfl, rfl⟩
      obtain ⟨T, hT⟩ : ∃ T, T = be ((b.drop 4).take 4) := ⟨_, rfl⟩
      obtain ⟨p1, hp1⟩ : ∃ p, p = be (b.take 2) := ⟨_, rfl⟩
      obtain ⟨p2, hp2⟩ : ∃ p, p = be ((b.drop 2).take 2) := ⟨_, rfl⟩
      rw [← hT, ← hp1, ← hp2]
      rw [← hT] at htl
      have HT := Lib.hid hT
      have HP1 := Lib.hid hp1
      have HP2 := Lib.hid hp2
      clear hT hp1 hp2
      have hc12n : (12 : Int) ≤ (N : Int) := by omega
      have HC12 := Lib.hid (show ∀ B, (B = if C = 12 then A else A.map (·.add 12)) → Rd w B (N - 12) (b.drop 12) from fun B hB => by
        have hc := hx.cut (k := 12) (m := N - 12) (by omega) hNC B hB
        rwa [List.take_of_length_le (by rw [List.length_drop, hlen.out]; omega)] at hc)
      go_upto_region 9 with fail
      go_cut [44] from 42 to 44 (fun x wx => ∃ A' d', x = .func (.func 84) #[] #[.pointer (some ⟨wo.heap.size + 1, 0, none⟩)] ∧ wx = (wo.alloc (.cells #[.int .u32 (T : Int), .slice none 0 0] 43)).alloc (.cells #[.slice A' (N - 12) d'] 22) ∧ Rd w A' (N - 12) (b.drop 12) ∧ N - 12 ≤ d' ∧ d' ≤ 9223372036854775807)
      case first =>
        by_cases hc12e : C = 12
        · subst hc12e
          obtain rfl : N = 12 := by omega
          have hr := HC12.out _ rfl
          rw [if_pos rfl] at hr
          go_wp2_with (go_at_call 78; refine (chunks_any _ _ _ _).mono ?_; rintro e w' ⟨rfl, rfl⟩)
          go_meet
          exact ⟨_, _, by simp, rfl, hr, by omega, by omega⟩
        · have hr := HC12.out _ rfl
          rw [if_neg hc12e] at hr
          go_wp2_with (go_at_call 78; refine (chunks_any _ _ _ _).mono ?_; rintro e w' ⟨rfl, rfl⟩)
          go_meet
          exact ⟨_, _, by simp, rfl, hr, by omega, by omega⟩
      case rest =>
        obtain ⟨A', d', rfl, rfl, hrd, hmd, hdm⟩ := hcut
        clear HC12 HC hx1 hx0 H0
        go_wp2
        refine (wpIn_wide (n := 8)).1 ?_
        refine wpIn_range_cell (σ := It) (α := Ev) rfl (by omega) rfl trivial (enters_of Try.func84 (by kernel_rfl) rfl) (encs := Ev.args) (fun x => by cases x <;> rfl)
          (fun s W => ∃ A n c, RdI w wo.heap.size T s A n c W) (fun x W => x = .bad ∧ Below w.heap.size w W ∧ W.heap[w.heap.size]? = some (.cells #[.int .u32 0, .slice none 0 0] 43 (0, 0)) ∧ W.heap[w.heap.size + 1]? = some (.cells #[.int .i64 7] 26 (0, 0)))
          ItPre ItNx (ItMv (wo.heap.size + 1)) (fun s => rdCks (b.drop 12) = some (s.pre.map (·.c))) (ItT (b.drop 12))
          ?hI ?hIx ?hMvI ?hMvK ⟨[], A', N - 12, d', b.drop 12, wo.heap.size + 2⟩ ?h0 ?hseq
          (fun a s x a' W => ∃ A n c X, RdI w wo.heap.size T s A n c W ∧ a' = { tmps := (((a.tmps.setIfInBounds 45 (x.args.getD 0 undef)).setIfInBounds 46 (x.args.getD 1 undef)).setIfInBounds 11 (.pointer (some ⟨X, 0, none⟩))).setIfInBounds 12 (x.args.getD 1 undef), defers := [] } ∧
            W.heap[X]? = some (.cells (x.args.getD 0 undef).cells 45 (0, 0)) ∧ ItPre s x W)
          ?hAx ?hassign ?hbody ?hdone ?hstop
        case hI => exact RdI.own_ w wo.heap.size T _ (by have := hbl.size; simp; omega)
        case hIx =>
          rintro x W W' row ⟨rfl, hb, h0, h1⟩ hg hr
          have k : KC (fun _ => False) W W' := KC.others hg (fun r e => (hr r e).2)
          exact ⟨rfl, hb.grown hg hb.size (fun r e => by have := (hr r e).1; have := hbl.size; simp at *; omega), k.same _ _ _ _ h0 id, k.same _ _ _ _ h1 id⟩
        case hMvI =>
          rintro s W s' W' ⟨A1, n1, c1, h⟩ hm
          exact ⟨A1, n1, c1, h.move hm⟩
        case hMvK =>
          rintro s W s' W' (⟨hb, _⟩ | ⟨k, _, _, rfl⟩)
          · exact ⟨hb.size, fun k o _ hk _ => (hb.block k (lt_of_heap hk)).trans hk⟩
          · exact (KeepsOthers.setCell _ _ _).from _
        case h0 =>
          have hfar := lt_of_heap hr1
          refine ⟨none, 0, 0, ?_, hrd, hmd, hdm, by simp only; omega, (hbl.alloc hbl.size _).alloc (by have := hbl.size; simp; omega) _, ?_, ?_, ?_, ownC_nil _ _, Bodies.nil _ _, fun p hp => absurd hp (by simp), Nat.le_refl _, by simp, hfar⟩
          · have := heap_alloc_new (wo.alloc (.cells #[.int .u32 (T : Int), .slice none 0 0] 43)) (.cells #[.slice A' (N - 12) d'] 22)
            simpa using this
          · rw [Below.heap_alloc _ _ _ (by simp; omega), Below.heap_alloc _ _ _ (by omega)]
            exact hr0
          · rw [Below.heap_alloc _ _ _ (by simp; omega), Below.heap_alloc _ _ _ (by omega)]
            exact hr1
          · rw [Below.heap_alloc _ _ _ (by simp)]
            exact heap_alloc_new wo _
        case hseq =>
          intro l J Jx W hMvJ hJI hY h0J
          exact chunks_it 7 (by omega) l (wo.heap.size + 1) (b.drop 12) J Jx W hMvJ (fun s W h => by obtain ⟨A1, n1, c1, hi⟩ := hJI s W h; exact hi.it) hY _ h0J rfl rfl
        case hAx =>
          rintro s x a' W W' row ⟨A1, n1, c1, X, h, ha, hX, hp⟩ hg hr
          have k : KC (fun _ => False) W W' := KC.others hg (fun r e => (hr r e).2)
          refine ⟨A1, n1, c1, X, h.others (by have := hbl.size; simp; omega) hg hr, ha, k.same _ _ _ _ hX id, ?_⟩
          cases x with
          | ok p => exact ⟨hp.1.kc k (fun _ _ _ => id), hp.2⟩
          | bad => trivial
        case hassign =>
          rintro l s x W K ⟨A1, n1, c1, h⟩ hp hK
          cases x with
          | ok p =>
            dsimp only [Ev.args]
            gi_wp2
            exact hK _ _ ((KeepsOthers.alloc _ _).from _) ⟨A1, n1, c1, W.heap.size, h.alloc _, rfl, heap_alloc_new _ _, ⟨hp.1.alloc _, hp.2⟩⟩
          | bad =>
            dsimp only [Ev.args]
            gi_wp2
            exact hK _ _ ((KeepsOthers.alloc _ _).from _) ⟨A1, n1, c1, W.heap.size, h.alloc _, rfl, heap_alloc_new _ _, trivial⟩
        case hbody =>
          rintro l s x a' W ⟨A1, n1, c1, X, h, rfl, hX, hp⟩
          have g0 := fun i => cell_of_row W wo.heap.size i _ 43 (0, 0) h.pb
          have z0 := fun i => frozen_of_row W wo.heap.size i _ 43 h.pb
          have x0 := fun i => cell_of_row W X i _ 45 (0, 0) hX
          have q0 := fun i => cell_of_row W w.heap.size i _ 43 (0, 0) h.r0
          have f0 := fun i => frozen_of_row W w.heap.size i _ 43 h.r0
          have q1 := cell_of_one h.r1
          have z1 := free_of_one h.r1
          cases x with
          | ok p =>
            dsimp only [Ev.args] at x0 ⊢
            have hn1 := h.len
            subst hn1
            have hb2 : wo.heap.size + 2 ≤ W.heap.size := Nat.le_trans h.base0 h.base
            gi_wp2_with (gi_at_builtin; refine wpListIn_chunk _ rfl (.tmp 52) (.tmp 54) rfl (wo.heap.size + 2) _ s.pre p rfl (h.own.alloc _) W.heap.size rfl (heap_alloc_new _ _) (by have := hp.2; omega) (by simp; omega) ?_; intro A2 c2 w1 hown1 hgrow1; have pb1 := h.pb1 hgrow1; have b0 := fun i => cell_of_row w1 wo.heap.size i _ 43 (0, 0) pb1; have d0 := fun i => frozen_of_row w1 wo.heap.size i _ 43 pb1)
            obtain ⟨hkf, s', hnx, hI'⟩ := h.more hp.1 hown1 hgrow1 ((wo.alloc (.cells #[.int .u32 (T : Int), .slice none 0 0] 43)).alloc (.cells #[.slice A' (N - 12) d'] 22)).heap.size
            exact ⟨hkf, s', hnx, _, _, _, hI'⟩
          | bad =>
            dsimp only [Ev.args] at x0 ⊢
            have o := out59 (a := .int .u32 0) (b := .slice none 0 0) (d := .int .i64 7) h.r0 h.r1
            have HO := Lib.hid o
            clear o
            gi_wp2
            refine ⟨(((KeepsOthers.setCell _ _ _).trans (KeepsOthers.setCell _ _ _)).trans (KeepsOthers.setCell _ _ _)).from _, ?_, HO.out.1, HO.out.2⟩
            exact ((h.below.setCell (p := ⟨w.heap.size, 0, none⟩) (by simp) _).setCell (p := ⟨w.heap.size, 1, none⟩) (by simp) _).setCell (p := ⟨w.heap.size + 1, 0, none⟩) (by simp) _
        case hdone =>
          rintro D s W hD hS ⟨A1, n1, c1, h⟩ hK
          have hDw : w.heap.size ≤ D := by have := hbl.size; simp at hD; omega
          have hn1 := h.len
          subst hn1
          have hcks := (h.own.cks h.bod.ok).2
          have g0 := fun i => cell_of_row W wo.heap.size i _ 43 (0, 0) h.pb
          have q0 := fun i => cell_of_row W w.heap.size i _ 43 (0, 0) h.r0
          have f0 := fun i => frozen_of_row W w.heap.size i _ 43 h.r0
          have q1 := cell_of_one h.r1
          have z1 := free_of_one h.r1
          have hpe := pkErr_some (b := b) (by rw [hlen.out]; omega) HSUM.out hS
          rw [← HP1.out, ← HP2.out] at hpe
          have HPE := Lib.hid hpe
          have HS2 := Lib.hid hS
          have HD := Lib.hid hD
          have HDw := Lib.hid hDw
          clear hpe hS hD hDw
          by_cases hp1 : p1 = 5000
          · by_cases hp2 : p2 = 5000
            · subst hp1 hp2
              obtain ⟨mv, hm⟩ : ∃ m, m = mayB (s.pre.map (·.c)) := ⟨_, rfl⟩
              have HM := Lib.hid hm
              clear hm
              have hl9 : s.pre.length ≤ 9223372036854775807 := by obtain ⟨_, _, _, hl, hm⟩ := h.own.form; unfold maxLen at hm; omega
              cases mv
              · have hne : pkErr b = 7 := by rw [HPE.out, if_neg (fun h => by have := h.2.2; rw [← HM.out] at this; cases this)]
                have HNE := Lib.hid hne
                clear hne
                go_wp2_with (go_at_call 69; refine (may_any A1 _ c1 (s.pre.map (·.c)) _ hcks hl9).mono ?_; rintro e w2 ⟨rfl, hb2⟩; rw [← HM.out]; have r02 := stays h.r0 hb2; have r12 := stays h.r1 hb2; have q02 := fun i => cell_of_row w2 w.heap.size i _ 43 (0, 0) r02; have f02 := fun i => frozen_of_row w2 w.heap.size i _ 43 r02; have q12 := cell_of_one r12; have z12 := free_of_one r12)
                have F := fin59 (a := .int .u32 0) (b := .slice none 0 0) (d := .int .i64 7) (h.below.trans (hb2.mono h.below.size)) r02 r12 (stays hK hb2) HDw.out _ rfl
                refine ⟨by simp, .inl ⟨_, _, rfl, run_takeDeferred F.1, ?_⟩⟩
                exact ⟨.tuple #[.agg #[.int .u32 0, .slice none 0 0], .int .i64 7], by rw [res59 (g := w.heap.size) rfl rfl F.2.1 F.2.2.1], PkOut.bad HNE.out (by omega) ⟨rfl, F.2.2.2.1⟩⟩
              · have hne : pkErr b = 0 := by rw [HPE.out, if_pos ⟨rfl, rfl, HM.out.symm⟩]
                obtain ⟨hc1, ht1⟩ := pkCks_good hne HS2.out
                have HNE := Lib.hid hne
                have HCK := Lib.hid hc1
                have HTG := Lib.hid ht1
                clear hne hc1 ht1
                go_wp2_with (go_at_call 69; refine (may_any A1 _ c1 (s.pre.map (·.c)) _ hcks hl9).mono ?_; rintro e w2 ⟨rfl, hb2⟩; rw [← HM.out]; have r02 := stays h.r0 hb2; have r12 := stays h.r1 hb2; have q02 := fun i => cell_of_row w2 w.heap.size i _ 43 (0, 0) r02; have f02 := fun i => frozen_of_row w2 w.heap.size i _ 43 r02; have q12 := cell_of_one r12; have z12 := free_of_one r12; have g02 := fun i => cell_of_row w2 wo.heap.size i _ 43 (0, 0) (stays h.pb hb2))
                have F := fin59 (a := .int .u32 (T : Int)) (b := .slice A1 s.pre.length c1) (d := .int .i64 0) (h.below.trans (hb2.mono h.below.size)) r02 r12 (stays hK hb2) HDw.out _ rfl
                refine ⟨by simp, .inl ⟨_, _, rfl, run_takeDeferred F.1, ?_⟩⟩
                have hE : ∀ g cs t, w2.heap[g]? = some (.cells cs t (0, 0)) → t ≠ 43 → t ≠ 26 → ¬ (g = w.heap.size ∨ g = w.heap.size + 1) := by
                  rintro g cs t hg h4 h2 (rfl | rfl)
                  · rw [r02] at hg; simp at hg; exact h4 hg.2.symm
                  · rw [r12] at hg; simp at hg; exact h2 hg.2.symm
                have hfar := h.far
                refine ⟨.tuple #[.agg #[.int .u32 (T : Int), .slice A1 s.pre.length c1], .int .i64 0], by rw [res59 (g := w.heap.size) rfl rfl F.2.1 F.2.2.1], A1, s.pre.length, c1, s.pre, ?_, ?_, HCK.out.symm, ?_, F.2.2.2.1⟩
                · rw [HNE.out, HTG.out, ← HT.out]; rfl
                · exact ((h.own.below hb2).kc F.2.2.2.2 (fun g cs hg => hE g cs _ hg (by decide) (by decide))).mono (by omega)
                · exact ((h.bod.kc (E := fun _ => False) (KC.of_below hb2) (fun _ _ _ => id)).kc F.2.2.2.2 (fun g cs hg => hE g cs _ hg (by decide) (by decide))).mono (by omega)
            · have hp1' : ((p1 : Int) != 5000) = false := by simp; omega
              have hp2' : ((p2 : Int) != 5000) = true := by simp; omega
              have hne : pkErr b = 7 := by rw [HPE.out, if_neg (fun h => hp2 h.2.1)]
              have HNE := Lib.hid hne
              clear hne
              go_wp2
              have F := fin59 (a := .int .u32 0) (b := .slice none 0 0) (d := .int .i64 7) h.below h.r0 h.r1 hK HDw.out _ rfl
              refine ⟨by simp, .inl ⟨_, _, rfl, run_takeDeferred F.1, ?_⟩⟩
              exact ⟨.tuple #[.agg #[.int .u32 0, .slice none 0 0], .int .i64 7], by rw [res59 (g := w.heap.size) rfl rfl F.2.1 F.2.2.1], PkOut.bad HNE.out (by omega) ⟨rfl, F.2.2.2.1⟩⟩
          · have hp1' : ((p1 : Int) != 5000) = true := by simp; omega
            have hne : pkErr b = 7 := by rw [HPE.out, if_neg (fun h => hp1 h.1)]
            have HNE := Lib.hid hne
            clear hne
            go_wp2
            have F := fin59 (a := .int .u32 0) (b := .slice none 0 0) (d := .int .i64 7) h.below h.r0 h.r1 hK HDw.out _ rfl
            refine ⟨by simp, .inl ⟨_, _, rfl, run_takeDeferred F.1, ?_⟩⟩
            exact ⟨.tuple #[.agg #[.int .u32 0, .slice none 0 0], .int .i64 7], by rw [res59 (g := w.heap.size) rfl rfl F.2.1 F.2.2.1], PkOut.bad HNE.out (by omega) ⟨rfl, F.2.2.2.1⟩⟩
        case hstop =>
          rintro D x W hD hT ⟨rfl, hb, h0, h1⟩ hK
          have hDw : w.heap.size ≤ D := by have := hbl.size; simp at hD; omega
          have hne : pkErr b = 7 := pkErr_none (by rw [hlen.out]; omega) HSUM.out hT
          have HNE := Lib.hid hne
          clear hne
          refine wpIn_wide.2 ?_
          go_wp2
          have hD0 : D ≠ w.heap.size := by rintro rfl; rw [h0] at hK; cases hK
          have hD1 : D ≠ w.heap.size + 1 := by rintro rfl; rw [h1] at hK; cases hK
          refine ⟨by simp, .inl ⟨_, _, rfl, run_takeDeferred hK, ?_⟩⟩
          refine ⟨.tuple #[.agg #[.int .u32 0, .slice none 0 0], .int .i64 7], by rw [res59 (g := w.heap.size) rfl rfl ((World.putObj_heap_other (Ne.symm hD0)).trans h0) ((World.putObj_heap_other (Ne.symm hD1)).trans h1)], PkOut.bad HNE.out (by omega) ⟨rfl, ?_⟩⟩
          exact hb.grown (grownBy_putObj' _ D _) hb.size (fun k e => by cases e; exact hDw)

/-- packet.Read, for any bytes. -/
theorem pkrd_any (A : Option Addr) (N C : Nat) (b : List UInt8) (w : World) (hx : Rd w A N b) (hNC : N ≤ C) (hC : C ≤ 9223372036854775807) (hN : N ≤ 1000000) :
    Calls Try.prog 59 #[.slice A N C] w (PkOut w b) := by
  by_cases h12 : 12 ≤ N
  · exact pkrd_main A N C b w hx hNC hC hN h12
  · exact (pkrd_short A N C w (by omega)).mono fun e w' h => PkOut.bad (pkErr_short (by rw [hx.len]; omega)) (by omega) h
end Go.Proofs.Ythndlhflkbidiaa
