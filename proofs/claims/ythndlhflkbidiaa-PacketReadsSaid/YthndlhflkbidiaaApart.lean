/- Apart: no row reaches into another one; all is as it was behind the call. -/
import Derived.Test.YthndlhflkbidiaaRowW
namespace Go.Proofs.Ythndlhflkbidiaa
open Go.RowKit

theorem info9 : (Try.prog.info? 9).map (fun i => (i.zero, i.size, i.bytes)) = some (some (.string ⟨#[]⟩), 1, 16) := by kernel_rfl

def ApOut (w : World) (N : Nat) (f i : Value) (wr : World) : Prop := ∃ k : Nat, k ≤ N ∧ i = .int .i64 k ∧ f = .bool true ∧ Below w.heap.size w wr
def ApWas (w : World) (N : Nat) (rs : Nat → Row) (v i : Value) (wr : World) : Prop :=
  ∃ k : Nat, k ≤ N ∧ i = .int .i64 k ∧ wr.ownsRow w.heap.size 9 1 v k (strs rs k) ∧ Below w.heap.size w wr

set_option maxRecDepth 100000 in
theorem apart_any (G N C : Nat) (rs : Nat → Row) (w : World) (h : Rows3 w G N rs) (hN : N ≤ 100000) :
    Calls Try.prog 34 #[.slice (some ⟨G, 0, none⟩) N C] w fun e w' => e = .returned (.bool true) ∧ Below w.heap.size w w' := by
  obtain ⟨i0, hi0, hz0, hz1, hz2⟩ := info_parts info9
  have hs0 : Value.string ⟨#[]⟩ = Value.string ByteArray.empty := rfl
  go_enter Try.func34, Try.ntmps34
  go_wp2
  go_loopw [3, 4] (fun f i wr => ApOut w N f i wr) (fun _ i _ => N - (intOf i).toNat)
  case atStart => exact ⟨0, by omega, rfl, rfl, Below.refl _ _⟩
  case round =>
    obtain ⟨i, hi, rfl, rfl, hb⟩ := hrel
    by_cases hlt : i < N
    · have hlt' : (i : Int) < N := by omega
      obtain ⟨wo, rfl⟩ : ∃ wo : World, wo = wr := ⟨_, rfl⟩
      go_wp2
      go_loopw [5, 6] (fun v j wr => ApWas w N rs v j wr) (fun _ j _ => N - (intOf j).toNat)
      case atStart => exact ⟨0, by omega, rfl, World.ownsRow_nil _ _ _ _, hb⟩
      case round =>
        obtain ⟨k, hk, rfl, hown, hbr⟩ := hrel
        have hR := h.below hbr
        by_cases hltk : k < N
        · have hltk' : (k : Int) < N := by omega
          have hcell := hR.cell k hltk
          have hcv := run_convert_rd (hR.ok k hltk).rd (rs k).c
          have hsz := hbr.size
          unfold Row.val at hcell
          go_wp2_with (at_builtin; refine wpList_append_own _ rfl (.tmp 23) (.tmp 29) 81 rfl w.heap.size 9 i0 _ 1 16 Try.underlying81 hi0 hz0 hz1 hz2 rfl (by decide) _ k (strs rs k) rfl (hown.alloc _) ⟨wr.heap.size, 0, none⟩ 1 1 [Value.string (rs k).st] rfl rfl (cell_one_new _ _ _) (by intro u hu; simp at hu; subst hu; rfl) (by unfold maxLen; omega) (by omega) (by simp; omega) ?_; intro v1 w1 hown1 hg1 hnil1)
          have hb1 : Below w.heap.size w w1 := (hbr.alloc hsz _).grown hg1 (by simp; omega) (fun g hg => (hown.lt g hg).1)
          clear hg1 hnil1
          rw [← strs_succ] at hown1
          go_roundw
          case rel => exact ⟨k + 1, by omega, by go_num, hown1, hb1⟩
          case measure => simp [intOf]; omega
        · obtain rfl : N = k := by omega
          obtain ⟨wn, rfl⟩ : ∃ wn : World, wn = wr := ⟨_, rfl⟩
          obtain ⟨gw, cw, rfl, hgwb, hgwl⟩ := hown.form (by omega)
          have hRi := h.ok i hlt
          obtain ⟨A, n, c, zs, hri⟩ : ∃ A n c zs, rs i = ⟨A, n, c, zs⟩ := ⟨_, _, _, _, rfl⟩
          have hci := hR.cell i hlt
          rw [hri] at hci hRi
          unfold Row.val at hci
          simp only at hci
          have hzl : zs.length = c := hRi.1
          have hnc : n ≤ c := hRi.2.1
          have hcm : c ≤ 9223372036854775807 := hRi.2.2.1
          have HZ := Lib.hid hzl
          obtain ⟨g, hAg, hgx, hg0, hP2⟩ : ∃ g : Nat, (0 < c → A = some ⟨g, 0, none⟩) ∧ (0 < c → Blk w g zs) ∧ (g < w.heap.size ∧ 0 < c ∨ g = wn.heap.size ∧ c = 0) ∧ (∀ k, k < N → k ≠ i → 0 < (rs k).c → (rs k).A ≠ some ⟨g, 0, none⟩) := by
            by_cases hc : 0 < c
            · obtain ⟨g, hA, hB⟩ := hRi.2.2.2 hc
              refine ⟨g, fun _ => hA, fun _ => hB, .inl ⟨hB.lt, hc⟩, fun k hk hne h0 hA' => hne ?_⟩
              exact h.apart k i g hk hlt h0 (by rw [hri]; exact hc) hA' (by rw [hri]; exact hA)
            · refine ⟨wn.heap.size, fun h => absurd h hc, fun h => absurd h hc, .inr ⟨rfl, by omega⟩, fun k hk _ h0 hA' => ?_⟩
              obtain ⟨g', e, hB⟩ := (hR.ok k hk).2.2.2 h0
              rw [hA'] at e
              injection e with e
              injection e with e
              have := hB.lt
              omega
          have hgw : gw ≠ g := by omega
          have hGg : G ≠ g := by
            rcases hg0 with ⟨_, hc⟩ | ⟨e, _⟩
            · exact h.ne hlt (by rw [hri]; exact hc) (by rw [hri]; exact hAg hc)
            · have := World.block_lt_of_cell? wn _ (hR.cell i hlt); simp at this; omega
          have HRI := Lib.hid hri
          clear hri hRi hzl
          go_wp2_with (go_at_call 67; refine (whole_any _ _ _ _ hnc hcm).mono ?_; rintro e w' ⟨rfl, rfl⟩)
          go_loopw [8] (fun x wx => ∃ j : Nat, j ≤ c ∧ x = .int .i64 j ∧ wn.grownBy wx (some g) ∧ (0 < c → Blk wx g (flTo zs j))) (fun x _ => c - (intOf x).toNat)
          case atStart => exact ⟨0, by omega, rfl, World.grownBy.refl _ _, fun h0 => by rw [flTo_zero]; exact (hgx h0).below hbr (hgx h0).lt⟩
          case round =>
            obtain ⟨j, hj, rfl, hgr, hB⟩ := hrel
            by_cases hltj : j < c
            · have hltj' : (j : Int) < c := by omega
              obtain rfl := hAg (by omega)
              have hBj := hB (by omega)
              have h2 := hBj.cell (k := j) (by rw [flTo_length, HZ.out]; exact hltj)
              rw [flTo_gb _ _ (by rw [HZ.out]; exact hltj)] at h2
              have h3 := hBj.frozen j
              have h4 := gb_lt zs j
              have HB := Lib.hid hBj
              clear hB hBj hgx
              go_wp2
              go_roundw
              case rel =>
                have hBj := HB.out.set_ j (255 - gb zs j) (by omega)
                rw [flTo_set zs j (by rw [HZ.out]; exact hltj)] at hBj
                rw [not_u8 _ h4]
                exact ⟨j + 1, by omega, by go_num, grown_set hgr _ _, fun _ => hBj⟩
              case measure => simp [intOf]; omega
            · obtain rfl : c = j := by omega
              obtain ⟨w2, rfl⟩ : ∃ w2 : World, w2 = wr := ⟨_, rfl⟩
              have hB2 : 0 < c → Blk w2 g (zs.map fl) := fun h0 => by have := hB h0; rw [← HZ.out, flTo_all] at this; exact this
              have hown2 := hown.kept hgr (.inr (by simp [Value.ownBlock, hgw]))
              clear hB hltj hj
              go_wp2
              go_loopw [3, 9] (fun f x wx => ∃ k : Nat, k ≤ N ∧ x = .int .i64 k ∧ f = .bool true ∧ ∃ q, wx = w2.drewN q) (fun _ x _ => N - (intOf x).toNat)
              case atStart => exact ⟨0, by omega, rfl, rfl, 0, rfl⟩
              case round =>
                obtain ⟨k, hk, rfl, rfl, q, rfl⟩ := hrel
                by_cases hltk : k < N
                · have hltk' : (k : Int) < N := by omega
                  have hb2 : ∀ b, b < wn.heap.size → b ≠ g → w2.heap[b]? = wn.heap[b]? := fun b hb hne => hgr.block b hb (fun e => hne (by injection e))
                  have hGl : G < wn.heap.size := World.block_lt_of_cell? wn _ (hR.cell k hltk)
                  have hck : w2.cell? ⟨G, k, none⟩ = some (.slice (rs k).A (rs k).n (rs k).c) := (World.cell?_of_block (w := wn) (a := ⟨G, k, none⟩) (hb2 G hGl hGg)).trans (hR.cell k hltk)
                  have hwk : w2.cell? ⟨gw, k, none⟩ = some (.string ⟨(rs k).xs.toArray⟩) := (hown2.cellAt k (by omega)).trans (strs_get rs N k hltk)
                  by_cases hki : k = i
                  · have hkb : ((k : Int) == (i : Int)) = true := by simp; omega
                    clear hb2
                    go_wp2
                    go_quiet (fail)
                    go_wp2
                    go_roundw
                    case rel => exact ⟨i + 1, by omega, rfl, rfl, _, rfl⟩
                    case measure => simp [intOf]; omega
                  · have hkb : ((k : Int) == (i : Int)) = false := by simp; omega
                    have hok : RowOk w2 (rs k) := (hR.ok k hltk).keep fun g' h0 e hl => hb2 g' hl (fun e' => hP2 k hltk hki h0 (by rw [e, e']))
                    have hcv := fun m => run_convert_rd (hok.rd.drewN m) (rs k).c
                    clear hb2
                    go_wp2
                    go_quiet (fail)
                    go_wp2
                    go_roundw
                    case rel => exact ⟨k + 1, by omega, by go_num, rfl, _, rfl⟩
                    case measure => simp [intOf]; omega
                · obtain rfl : N = k := by omega
                  clear hown2 hltk hk
                  go_wp2
                  go_loopw [10] (fun x wx => ∃ j : Nat, j ≤ c ∧ x = .int .i64 j ∧ wn.grownBy wx (some g) ∧ (0 < c → Blk wx g (flTo (zs.map fl) j))) (fun x _ => c - (intOf x).toNat)
                  case atStart => exact ⟨0, by omega, rfl, grown_drewN hgr q, fun h0 => by rw [flTo_zero]; exact hB2 h0⟩
                  case round =>
                    clear hgr hB2
                    obtain ⟨j, hj, rfl, hgr, hB⟩ := hrel
                    by_cases hltj : j < c
                    · have hltj' : (j : Int) < c := by omega
                      obtain rfl := hAg (by omega)
                      have hBj := hB (by omega)
                      have h2 := hBj.cell (k := j) (by rw [flTo_length, List.length_map, HZ.out]; exact hltj)
                      rw [flTo_gb _ _ (by rw [List.length_map, HZ.out]; exact hltj)] at h2
                      have h3 := hBj.frozen j
                      have h4 := gb_lt (zs.map fl) j
                      have HB := Lib.hid hBj
                      clear hB hBj hgx
                      go_wp2
                      go_roundw
                      case rel =>
                        have hBj := HB.out.set_ j (255 - gb (zs.map fl) j) (by omega)
                        rw [flTo_set (zs.map fl) j (by rw [List.length_map, HZ.out]; exact hltj)] at hBj
                        rw [not_u8 _ h4]
                        exact ⟨j + 1, by omega, by go_num, grown_set hgr _ _, fun _ => hBj⟩
                      case measure => simp [intOf]; omega
                    · obtain rfl : c = j := by omega
                      have hfin : Below w.heap.size w wr := by
                        refine ⟨hgr.os.trans hbr.os, hgr.tape.trans hbr.tape, hgr.output.trans hbr.output, Nat.le_trans hbr.size hgr.size, fun b hb' => ?_⟩
                        by_cases hbg : b = g
                        · subst hbg
                          have h0 : 0 < c := by
                            rcases hg0 with ⟨_, h0⟩ | ⟨e, _⟩
                            · exact h0
                            · have := hbr.size; omega
                          have h5 := hB h0
                          have e : c = (zs.map fl).length := by rw [List.length_map, HZ.out]
                          rw [e, flTo_all, fl_map] at h5
                          exact h5.trans (hgx h0).symm
                        · exact (hgr.block b (by have := hbr.size; omega) (fun e => hbg (by injection e))).trans (hbr.block b hb')
                      clear hgr hB hgx hbr hR h hown
                      go_wp2
                      go_roundw
                      case rel => exact ⟨i + 1, by omega, by go_num, rfl, hfin⟩
                      case measure => simp [intOf]; omega
    · obtain rfl : N = i := by omega
      go_wp2
      go_ret
      exact ⟨rfl, hb⟩

theorem Bo.place {w : World} {base : Nat} {A : Option Addr} {n c : Nat} {xs : List UInt8} (h : Bo w base A n c xs) : ∀ g, 0 < c → A = some ⟨g, 0, none⟩ → base ≤ g ∧ g < w.heap.size := by
  intro g hc hA
  obtain ⟨g', ys, e, hb, _, hB⟩ := h.blk hc
  rw [hA] at e
  injection e with e
  injection e with e
  subst e
  exact ⟨hb, hB.lt⟩
theorem rows3 {w : World} (r1 r2 r3 : Row) (h1 : RowOk w r1) (h2 : RowOk w r2) (h3 : RowOk w r3)
    (d12 : ∀ g, 0 < r1.c → 0 < r2.c → r1.A = some ⟨g, 0, none⟩ → r2.A = some ⟨g, 0, none⟩ → False) (d13 : ∀ g, 0 < r1.c → 0 < r3.c → r1.A = some ⟨g, 0, none⟩ → r3.A = some ⟨g, 0, none⟩ → False)
    (d23 : ∀ g, 0 < r2.c → 0 < r3.c → r2.A = some ⟨g, 0, none⟩ → r3.A = some ⟨g, 0, none⟩ → False) :
    Rows3 (w.alloc (.cells #[r1.val, r2.val, r3.val] 22)) w.heap.size 3 (fun k => match k with | 0 => r1 | 1 => r2 | _ => r3) := by
  have kp : ∀ r : Row, RowOk w r → RowOk (w.alloc (.cells #[r1.val, r2.val, r3.val] 22)) r := fun r h => h.keep fun g _ _ hg => Below.heap_alloc w _ g hg
  refine ⟨fun k hk => ?_, fun k hk => ?_, fun i k g hi hk hci hck hAi hAk => ?_⟩
  · match k, hk with
    | 0, _ => simp
    | 1, _ => simp
    | 2, _ => simp
  · match k, hk with
    | 0, _ => exact kp _ h1
    | 1, _ => exact kp _ h2
    | 2, _ => exact kp _ h3
  · match i, hi, k, hk with
    | 0, _, 0, _ => rfl
    | 1, _, 1, _ => rfl
    | 2, _, 2, _ => rfl
    | 0, _, 1, _ => exact (d12 g hci hck hAi hAk).elim
    | 1, _, 0, _ => exact (d12 g hck hci hAk hAi).elim
    | 0, _, 2, _ => exact (d13 g hci hck hAi hAk).elim
    | 2, _, 0, _ => exact (d13 g hck hci hAk hAi).elim
    | 1, _, 2, _ => exact (d23 g hci hck hAi hAk).elim
    | 2, _, 1, _ => exact (d23 g hck hci hAk hAi).elim

/-- Two rows that a call made one behind the other, and the row that it read: apart. -/
theorem apart3 {w0 w1 w2 : World} {A1 A2 : Option Addr} {g n1 n2 n c1 c2 : Nat} {xs1 xs2 zs : List UInt8} (h1 : Bo w1 w0.heap.size A1 n1 c1 xs1) (h2 : Bo w2 w1.heap.size A2 n2 c2 xs2)
    (h3 : Blk w0 g zs) (hzs : zs.length = n + 16) (hn : n ≤ 140737488350000) (b1 : Below w0.heap.size w0 w1) (b2 : Below w1.heap.size w1 w2) :
    Calls Try.prog 34 #[.slice (some ⟨w2.heap.size, 0, none⟩) 3 3] (w2.alloc (.cells #[.slice A1 n1 c1, .slice A2 n2 c2, .slice (some ⟨g, 0, none⟩) n (n + 16)] 22)) fun e w' =>
      e = .returned (.bool true) ∧ Below w2.heap.size w2 w' := by
  have p1 := h1.place
  have p2 := h2.place
  obtain ⟨r1, rfl, rfl, rfl, k1⟩ := RowOk.of_bo (h1.below b2)
  obtain ⟨r2, rfl, rfl, rfl, k2⟩ := RowOk.of_bo h2
  have hgl := h3.lt
  have s1 := b1.size
  have hg : g < w1.heap.size := Nat.lt_of_lt_of_le hgl s1
  have k3 : RowOk w2 ⟨some ⟨g, 0, none⟩, n, n + 16, zs⟩ := ⟨hzs, by simp, by simp; omega, fun _ => ⟨g, rfl, (h3.after b1).after b2⟩⟩
  have hr := rows3 r1 r2 ⟨some ⟨g, 0, none⟩, n, n + 16, zs⟩ k1 k2 k3
    (fun x ha hb e1 e2 => by have := p1 x ha e1; have := p2 x hb e2; omega)
    (fun x ha hb e1 e2 => by have := p1 x ha e1; injection e2 with e2; injection e2 with e2; omega)
    (fun x ha hb e1 e2 => by have := p2 x ha e1; injection e2 with e2; injection e2 with e2; omega)
  exact (apart_any w2.heap.size 3 3 _ _ hr (by omega)).mono fun e w' ⟨he, hb⟩ => ⟨he, ((Below.refl _ _).alloc (Nat.le_refl _) _).trans (hb.mono (by simp))⟩
end Go.Proofs.Ythndlhflkbidiaa
