/-
  Read tells the packet of any bytes, in new memory, or why there is none. No condition.
-/
import Derived.Test.YthndlhflkbidiaaRdLaw
import Derived.Test.YthndlhflkbidiaaWk10
import Derived.Test.YthndlhflkbidiaaOpenC
namespace Go.Proofs.Ythndlhflkbidiaa.packetReads
open Go.Proofs.Ythndlhflkbidiaa
open Go.ChangeShapes Go.WideShapes Go.ChangeAt Go.RowKit

set_option maxRecDepth 100000 in
set_option maxHeartbeats 4000000 in
theorem walk (A : Option Addr) (n c : Nat) (xs : List UInt8) (w : World) (hx : Rd w A n xs) (hnc : n ≤ c) (hc : c ≤ 9223372036854775807) :
    Calls Try.prog 21 #[.slice A n c] w fun e w' => e = .returned (.bool true) ∧ Below w.heap.size w w' := by
  by_cases h : (4096 : Int) < (n : Int)
  · go_enter Try.func21, Try.ntmps21
    go_wp2_with (go_at_call 41; refine (works10_any _).mono ?_; rintro e w1 ⟨rfl, hb⟩)
    go_ret
    exact ⟨rfl, hb⟩
  have h' : (n : Int) ≤ 4096 := by omega
  have HL := Lib.hid hx.len
  obtain ⟨i0, hi0, hz0, hz1, hz2⟩ := info_parts info22
  obtain ⟨E, hE⟩ : ∃ E, E = pkErr xs := ⟨_, rfl⟩
  obtain ⟨T, hT⟩ : ∃ T, T = pkTag xs := ⟨_, rfl⟩
  obtain ⟨cs, hcs⟩ : ∃ x, x = pkCks xs := ⟨_, rfl⟩
  have hfew : 4 * cs.length ≤ n := by rw [hcs, ← HL.out]; exact pkCks_few xs
  have HE := Lib.hid hE
  have HT := Lib.hid hT
  have HCS := Lib.hid hcs
  clear hE hT hcs h
  go_enter Try.func21, Try.ntmps21
  go_wp2_with fail
  refine (roomy_any A n c xs _ hx (by omega)).mono ?_
  rintro e w1 ⟨rfl, hB, hb1⟩
  have hin : Rd w1 (some ⟨w.heap.size, 0, none⟩) n xs := (Blk.bo (base := 0) hB (by omega) hx.len rfl (by simp [marks, maxLen]; omega)).rd
  have hgl := hB.lt
  go_wp2_with fail
  refine (pkrd_any _ n (n + 16) xs w1 hin (by omega) (by omega) (by omega)).mono ?_
  rintro e w2 ⟨A2, n2, c2, ps, rfl, hO2, hM2, hBd2, hb2⟩
  rw [← HE.out, ← HT.out]
  rw [← HCS.out] at hM2
  obtain ⟨hn2, hck2⟩ := hO2.cks hBd2.ok
  subst hn2
  rw [hM2] at hck2
  have hps : 4 * ps.length ≤ n := by have e := hck2.len; omega
  have hlen : ∀ c ∈ cs, c.xs.length ≤ 9223372036854775807 := fun c hc => by
    rw [← hM2] at hc
    obtain ⟨p, hp, rfl⟩ := List.mem_map.1 hc
    have := (hBd2.ok p hp).2
    omega
  have HLEN := Lib.hid hlen
  have HM2 := Lib.hid hM2
  have t2 := hb1.trans (hb2.mono hb1.size)
  clear hM2 hlen hin
  go_wp2_with fail
  refine (rd60_any A n c xs _ ((hx.below t2).alloc _) hnc hc (by omega)).mono ?_
  rintro e w3 ⟨A3, n3, c3, rfl, hC3, h33, hc3, hb3⟩
  rw [← HE.out, ← HT.out]
  rw [← HCS.out] at hC3
  have hn3 : n3 = ps.length := by rw [← hC3.len, ← hck2.len]
  subst hn3
  have pb3 := (hb3.block w2.heap.size (by simp)).trans (heap_alloc_new w2 _)
  have lt3 := lt_of_heap pb3
  have s2 := hb2.size
  have s3 := hb3.size
  have t3 := (t2.alloc t2.size (.cells #[.int .u32 (T : Int), .slice A2 ps.length c2] 43)).trans (hb3.mono (by have := t2.size; simp; omega))
  have t4 := t3.alloc t3.size (.cells #[.int .u32 (T : Int), .slice A3 ps.length c3] 43)
  have pb4 := (Below.heap_alloc w3 (.cells #[.int .u32 (T : Int), .slice A3 ps.length c3] 43) _ lt3).trans pb3
  have p4 := fun i => cell_of_row (w3.alloc (.cells #[.int .u32 (T : Int), .slice A3 ps.length c3] 43)) w2.heap.size i _ 43 (0, 0) pb4
  have hcA := ((hck2.alloc (.cells #[.int .u32 (T : Int), .slice A2 ps.length c2] 43)).below hb3).alloc (.cells #[.int .u32 (T : Int), .slice A3 ps.length c3] 43)
  have hcB := hC3.alloc (.cells #[.int .u32 (T : Int), .slice A3 ps.length c3] 43)
  go_wp2_with fail
  refine (same10_any (T : Int) A2 A3 ps.length c2 c3 cs _ hcA hcB (by omega) HLEN.out).mono ?_
  rintro e w5 ⟨rfl, hb5⟩
  have t5 := t4.trans (hb5.mono t4.size)
  have pb5 := stays pb4 hb5
  have hx5 := hx.below t5
  have b25 : Below w2.heap.size w2 w5 := ((((Below.refl _ _).alloc (Nat.le_refl _) (.cells #[.int .u32 (T : Int), .slice A2 ps.length c2] 43)).trans (hb3.mono (by simp))).alloc (Nat.le_of_lt lt3) (.cells #[.int .u32 (T : Int), .slice A3 ps.length c3] 43)).trans (hb5.mono (by simp; omega))
  have hK5 : Blk w5 w.heap.size (xs ++ marks) := (hB.after hb2).after b25
  clear p4 hcA hcB hC3 pb3 pb4 t3 t4
  go_wp2_with fail
  refine (kept_any w.heap.size n A c xs _ hK5 hx5 (by omega)).mono ?_
  rintro e w' ⟨rfl, q, rfl⟩
  have hs5 : w2.heap.size < w5.heap.size := lt_of_heap pb5
  have b2q : Below w2.heap.size w2 (w5.drewN q) := below_drewN b25 q
  have t6 : Below w.heap.size w (w5.drewN q) := below_drewN t5 q
  have hKq : Blk (w5.drewN q) w.heap.size (xs ++ marks) := hK5
  have pbq : (w5.drewN q).heap[w2.heap.size]? = some (.cells #[.int .u32 (T : Int), .slice A2 ps.length c2] 43 (0, 0)) := pb5
  have p5 := fun i => cell_of_row (w5.drewN q) w2.heap.size i _ 43 (0, 0) pb5
  clear hb5 hK5 hx5 t5
  go_wp2_with fail
  have hrow0 := World.ownsRow_lit (e := 22) (size := 1) (base := w5.heap.size) (w5.drewN q) #[.slice (some ⟨w.heap.size, 0, none⟩) n (n + 16)] 1 (by simp) (by unfold maxLen; omega) rfl
  have hb0 := (Below.refl (w5.drewN q).heap.size (w5.drewN q)).alloc (Nat.le_refl _) (.cells #[.slice (some ⟨w.heap.size, 0, none⟩) n (n + 16)] 22)
  clear p5
  go_loopw [8, 9] (fun v i wr => ∃ k : Nat, k ≤ ps.length ∧ i = .int .i64 k ∧ wr.ownsRow w5.heap.size 22 1 v (k + 1) (rowVs (.slice (some ⟨w.heap.size, 0, none⟩) n (n + 16)) ps k) ∧ Below w5.heap.size (w5.drewN q) wr) (fun _ i _ => ps.length - (intOf i).toNat)
  case atStart => exact ⟨0, by omega, rfl, hrow0, hb0⟩
  case round =>
    clear hrow0 hb0
    obtain ⟨k, hk, rfl, hown, hb⟩ := hrel
    have hbw : Below w2.heap.size w2 wr := b2q.trans (hb.mono (Nat.le_of_lt hs5))
    have pbr := (hb.block w2.heap.size hs5).trans pbq
    have p5 := fun i => cell_of_row wr w2.heap.size i _ 43 (0, 0) pbr
    by_cases hlt : k < ps.length
    · have hlt' : (k : Int) < ps.length := by omega
      obtain ⟨g, c0, hv, hg1, hg2⟩ := World.ownsRow.form hO2 (by omega)
      injection hv with hv1 hv2 hv3
      subst hv1
      have hcell := (hbw.cell (p := ⟨g, k * 3 + 2, none⟩) hg2).trans (hO2.body hlt)
      unfold Cp.bodyV at hcell
      have hsz : w5.heap.size ≤ wr.heap.size := hb.size
      have HV := Lib.hid (rowVs_succ (.slice (some ⟨w.heap.size, 0, none⟩) n (n + 16)) ps k hlt)
      clear hv2 hv3
      go_wp2_with (at_builtin; refine wpList_append_own _ rfl (.tmp 50) (.tmp 57) 33 rfl w5.heap.size 22 i0 _ 1 24 Try.underlying33 hi0 hz0 hz1 hz2 rfl (by decide) _ (k + 1) (rowVs (.slice (some ⟨w.heap.size, 0, none⟩) n (n + 16)) ps k) rfl (hown.alloc _) ⟨wr.heap.size, 0, none⟩ 1 1 [.slice (ps[k]).A (ps[k]).c.xs.length (ps[k]).cap] rfl rfl (cell_one_new _ _ _) (by intro u hu; simp at hu; subst hu; rfl) (by unfold maxLen; omega) (by omega) (by simp; omega) ?_; intro v1 w8 hown8 hg8 hnil8)
      have hb8 : Below w5.heap.size (w5.drewN q) w8 := (hb.alloc hsz _).grown hg8 (by simp; omega) (fun g hg => (hown.lt g hg).1)
      clear hg8 hnil8
      go_roundw
      case rel => exact ⟨k + 1, by omega, by go_num, by rw [HV.out]; exact hown8, hb8⟩
      case measure => simp [intOf]; omega
    · obtain rfl : k = ps.length := by omega
      obtain ⟨G, cG, rfl, hG1, hG2⟩ := World.ownsRow.form hown (by omega)
      have hcellG := fun j (hj : j < ps.length + 1) => World.ownsRow.cellAt hown j (by omega)
      have hK := hKq.below hb (Nat.lt_of_lt_of_le hgl (Nat.le_trans s2 (Nat.le_of_lt hs5)))
      have hRow : RowOk wr ⟨some ⟨w.heap.size, 0, none⟩, n, n + 16, xs ++ marks⟩ := ⟨by simp [marks, HL.out], by simp, by simp; omega, fun _ => ⟨_, rfl, hK⟩⟩
      obtain ⟨rs, hR⟩ := rows_bodies hRow (hBd2.later hbw) (fun g _ e => by injection e with e; injection e with e; omega) hcellG
      have t7 := t6.trans (hb.mono (Nat.le_trans (Nat.le_of_lt hgl) (Nat.le_trans s2 (Nat.le_of_lt hs5))))
      clear hcellG hK hRow hown
      go_wp2_with fail
      refine (apart_any G (ps.length + 1) cG rs wr hR (by omega)).mono ?_
      rintro e w8 ⟨rfl, hb8⟩
      have t8 := t7.trans (hb8.mono t7.size)
      go_wp2_with fail
      refine (works10_any _).mono ?_
      rintro e w9 ⟨rfl, hb9⟩
      go_wp2
      go_ret
      exact ⟨rfl, t8.trans (hb9.mono t8.size)⟩

set_option maxRecDepth 100000 in
theorem lifted (os : Os) (started : os.Started) (H : Type) (enc : TypeId × Value → H) :
    ReturnsInHanded {} Try.checked os 21 .any (Rows.packetReadsSpec.pre6 enc Try.prog Try.f21 Rows.packetReadsRow.domain false) (Rows.packetReadsSpec.post enc Try.prog Try.f21 false true false false) := by
  refine returnsInHanded_of_change (C := Try.checked) own started (by kernel_rfl) Try.func21
    (ChangeSpec.witness6 (enc := enc) (C := Try.checked) false ⟨#[], #[.slice none 0 0], []⟩ 8 (by kernel_rfl) (by kernel_rfl) (by kernel_rfl) (by kernel_rfl)) ?_
  intro W base args ds gs before hval0 hW _ _
  have hval : ∀ (j : Nat) t v, Try.f21.params[j]? = some t → args[j]? = some v → Value.okWide Try.prog W .any base t v := hval0
  have hW' := hW
  obtain ⟨p, q, hA0, hV, rfl, _, _⟩ := hW
  have hA : DataW.TrodAll enc Try.prog W 0 (fun _ => true) true Try.f21.params.toList args.toList ds p := hA0
  have hA1 := hA
  rw [Try.params21] at hA hval
  obtain ⟨v0, vs0, d0, ds0, p0, q0, hargs, rfl, rfl, h0, r0⟩ := trodAll_cons hA
  obtain ⟨rfl, rfl, rfl⟩ := trodAll_nil r0
  obtain rfl : args = #[v0] := by cases args; simp_all
  obtain ⟨rfl, rfl⟩ := trodVars_none hV
  obtain ⟨A0, n0, c0, xs0, rfl, hx0, hn0, hc0⟩ := bytes_of (hval 0 22 v0 rfl rfl) h0
  clear hA0 hval0
  simp only [List.append_nil] at hW' hA1
  refine (walk A0 n0 c0 xs0 W hx0 hn0 hc0).mono fun e W' ⟨he, bel⟩ => ?_
  subst he
  exact ⟨_, rfl, post_law (by kernel_rfl) rfl rfl (by rw [Try.params21]; intro t ht; simp at ht; subst ht; exact ⟨by kernel_rfl, of_decide_eq_true (by kernel_rfl)⟩) hW' hA1 bel⟩

theorem closed : joinedFacts Try.prog 21 Try.f21 Rows.packetReadsSpec Rows.packetReadsRow = true :=
  closed_of (by kernel_rfl) laidOut mapsRowed0 (by kernel_rfl) (by kernel_rfl) (by kernel_rfl) stops0 (by kernel_rfl) knobs0 (by kernel_rfl) (by kernel_rfl) (by kernel_rfl) (by kernel_rfl) (by kernel_rfl) (by kernel_rfl) (by kernel_rfl)
    (by kernel_rfl) (by kernel_rfl) (by kernel_rfl) (by kernel_rfl) (by kernel_rfl) (by kernel_rfl) (by kernel_rfl) (by kernel_rfl) heard0 enter0 final0 rfl make0 rfl rfl rfl (by kernel_rfl) (by kernel_rfl) (by kernel_rfl)
theorem named : Try.prog.funcNamed Rows.packetReadsRow.func = some 21 := by kernel_rfl
theorem inst : Try.f21.isInstance Try.prog Rows.packetReadsRow.origin Rows.packetReadsRow.targs := of_decide_eq_true (by kernel_rfl)
theorem wrap : Try.f21.isWrapper Try.prog Rows.packetReadsRow.wrapper Rows.packetReadsRow.mainSum := by
  unfold Func.isWrapper
  rw [if_neg (by decide +kernel)]
  exact ⟨rfl, rfl⟩
theorem over : Rows.packetReadsRow.holds Try.pinned (OpenSpec.ofChange Rows.packetReadsSpec) :=
  OpenClaim.holds_of_wide 21 Try.f21 rfl rfl rfl rfl rfl rfl rfl ⟨rfl, rfl, rfl, rfl, rfl⟩ rfl rfl rfl rfl rfl named Try.func21 closed inst wrap
    (fun os started H enc _ => lifted os started H enc)

/-- The statement. -/
theorem proved : Rows.PacketReadsSaid := over
#print axioms proved
end Go.Proofs.Ythndlhflkbidiaa.packetReads
