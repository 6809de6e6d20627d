/-
  Chunks that are written one behind the other are read one behind the other, and nothing else. For every row of chunks. No condition.
-/
import Derived.Test.YthndlhflkbidiaaPkW
import Derived.Test.YthndlhflkbidiaaOpenK
import Derived.Deep.DeepCutAuto
import Derived.Deep.RegionHeld3
namespace Go.Proofs.Ythndlhflkbidiaa.chunkRow
open Go.Proofs.Ythndlhflkbidiaa
open Go.ChangeShapes Go.WideShapes Go.ChangeAt Go.RowKit

theorem walk_big (A : Option Addr) (n c : Nat) (w : World) (hc : (n : Int) ≤ 9223372036854775807) (h : 60 < n) :
    Calls Try.prog 16 #[.slice A n c] w fun e w' => e = .returned (.bool true) ∧ Below w.heap.size w w' := by
  have h' : (60 : Int) < (n : Int) := by omega
  go_enter Try.func16, Try.ntmps16
  go_wp2_with (go_at_call 48; refine (works08_any _).mono ?_; rintro e w2 ⟨rfl, hb2⟩)
  go_ret
  exact ⟨rfl, hb2⟩

set_option maxRecDepth 100000 in
set_option maxHeartbeats 1600000 in
theorem walk_go (A : Option Addr) (n c : Nat) (cs : List Ck) (w : World) (hx : Cks w A n cs) (h : n ≤ 60) :
    Calls Try.prog 16 #[.slice A n c] w fun e w' => e = .returned (.bool true) ∧ Below w.heap.size w w' := by
  have h' : ¬ (60 : Int) < (n : Int) := by omega
  have HL := Lib.hid hx.len
  go_enter Try.func16, Try.ntmps16
  go_wp2
  clear h'
  go_loopw [3, 4] (fun v i wr => ∃ (k : Nat) (Ab : Option Addr) (nb cb : Nat), k ≤ n ∧ i = .int .i64 k ∧ v = .slice Ab nb cb ∧ nb ≤ 2055 * k ∧ Bo wr w.heap.size Ab nb cb (flat (cs.take k)) ∧ Below w.heap.size w wr ∧ (∀ j (hj : j < cs.length), j < k → cs[j].xs.length ≤ 2048)) (fun _ i _ => n - (intOf i).toNat)
  case atStart => exact ⟨0, none, 0, 0, by omega, rfl, rfl, by omega, Bo.nil _ _ _, Below.refl _ _, fun j _ h => absurd h (by omega)⟩
  case round =>
    obtain ⟨k, Ab, nb, cb, hk, rfl, rfl, hnb, hB, hb, hsm⟩ := hrel
    by_cases hlt : k < n
    · have hlt' : (k : Int) < n := by omega
      have hkl : k < cs.length := by rw [HL.out]; exact hlt
      obtain ⟨g, off, rfl, hat⟩ := (hx.below hb).form hlt
      have hc0 := hat
      obtain ⟨A1, n1, c1, k0, k1, k2, hr1, hn1, hc1⟩ := hat
      by_cases h2 : 2048 < n1
      · have h2' : (2048 : Int) < (n1 : Int) := by omega
        go_wp2_with (go_at_call 48; refine (works08_any _).mono ?_; rintro e w2 ⟨rfl, hb2⟩)
        go_ret
        exact ⟨rfl, hb.trans (hb2.mono hb.size)⟩
      · have h2' : ¬ (2048 : Int) < (n1 : Int) := by omega
        have hl1 := hr1.len
        have HF := Lib.hid (flat_take hkl)
        have HS := Lib.hid hsm
        have HE := Lib.hid hl1
        clear hsm hl1
        go_wp2_with (first
          | (go_at_call 49; refine (ckw_all (cs[k]'hkl).k.toNat (cs[k]'hkl).f.toNat A1 n1 c1 (cs[k]'hkl).xs _ (UInt8.toNat_lt _) (UInt8.toNat_lt _) hr1).mono ?_; rintro e w2 ⟨A2, c2, rfl, hB2, hb2⟩)
          | (at_builtin; refine wpList_bytes R22 _ rfl (.tmp 30) (.tmp 35) rfl w.heap.size rfl rfl (hB.below hb2) hB2.rd (by have := wrN_le n1; omega) (by have := hb.size; have := hb2.size; omega) ?_; intro A3 c3 w3 hB3 hg3 hor3))
        have hb3 := below_grown (hB.below hb2) hg3 (by have := hb.size; have := hb2.size; omega)
        clear hg3 hor3
        go_wp2
        go_roundw
        case rel =>
          refine ⟨k + 1, A3, nb + wrN n1, c3, by omega, by go_num, rfl, by have := wrN_le n1; omega, ?_, (hb.trans (hb2.mono hb.size)).trans hb3, fun j hj hjk => ?_⟩
          · rw [HF.out]; exact hB3
          · by_cases e : j = k
            · subst e; rw [HE.out]; omega
            · exact HS.out j hj (by omega)
        case measure => simp [intOf]; omega
    · obtain rfl : n = k := by omega
      have hfl : flat (cs.take n) = flat cs := by rw [List.take_of_length_le (by rw [HL.out]; omega)]
      rw [hfl] at hB
      have HS := Lib.hid hsm
      obtain ⟨wo, rfl⟩ : ∃ wo : World, wo = wr := ⟨_, rfl⟩
      have hcm : cb ≤ 9223372036854775807 := by have := hB.2.2.1; unfold maxLen at this; omega
      have hnc := hB.2.1
      have hR := hB.rd
      have hnb' : nb ≤ 123300 := by omega
      clear hfl hsm hlt hk hB hnb
      go_wp2
      go_loopw [3, 5] (fun v i wr => ∃ (k : Nat) (Ab : Option Addr) (nb cb : Nat), k ≤ n ∧ i = .int .i64 k ∧ v = .slice Ab nb cb ∧ nb ≤ cb ∧ cb ≤ 9223372036854775807 ∧ nb ≤ 123300 ∧ Rd wr Ab nb (flat (cs.drop k)) ∧ Below w.heap.size w wr) (fun _ i _ => n - (intOf i).toNat)
      case atStart => exact ⟨0, Ab, nb, cb, by omega, rfl, rfl, hnc, hcm, hnb', by simpa using hR, hb⟩
      case round =>
        clear hb hR hnc hcm hnb'
        obtain ⟨k, Ab, nb, cb, hk, rfl, rfl, hnc, hcm, hnb', hR, hb⟩ := hrel
        by_cases hlt : k < n
        · have hlt' : (k : Int) < n := by omega
          have hkl : k < cs.length := by rw [HL.out]; exact hlt
          obtain ⟨ck, hck⟩ : ∃ ck, ck = cs[k]'hkl := ⟨_, rfl⟩
          have hsm : ck.xs.length ≤ 2048 := by rw [hck]; exact HS.out k hkl hlt
          have hfd := flat_drop hkl
          rw [← hck, Ck.bytes_small (c := ck) (by simp [small]; omega)] at hfd
          obtain ⟨m, hm⟩ : ∃ m, m = ck.xs.length := ⟨_, rfl⟩
          have hlb := ckB_length ck.k.toNat ck.f.toNat ck.xs
          rw [← hm] at hlb
          have hup := up_le (4 + m)
          have hfl : up (4 + m) + (flat (cs.drop (k + 1))).length = nb := by
            rw [← hR.len, hfd, List.length_append, hlb]
          have hm2 : m ≤ 2048 := by omega
          have hR' := hR
          rw [hfd] at hR'
          have hcx := hx.below hb
          go_wp2_with fail
          refine (read_back Ab nb cb ck.k.toNat ck.f.toNat m ck.xs _ _ (UInt8.toNat_lt _) (UInt8.toNat_lt _) hm.symm (by omega) hR' hnc hcm (by omega)).mono ?_
          rintro e w2 ⟨A2, c2, rfl, hB2, hb2⟩
          have t2 := hb.trans (hb2.mono hb.size)
          have t2' := t2.alloc t2.size (.cells #[.int .u8 (ck.k.toNat : Int), .int .u8 (ck.f.toNat : Int), .slice A2 m c2] 45)
          obtain ⟨g, off, rfl, hat⟩ := (hx.below t2').form hlt
          rw [← hck] at hat
          obtain ⟨A1, n1, c1, k0, k1, k2, hr1, hn1, hc1⟩ := hat
          have hr1l := hr1.len
          have hB2' := hB2.alloc (.cells #[.int .u8 (ck.k.toNat : Int), .int .u8 (ck.f.toNat : Int), .slice A2 m c2] 45)
          have hng : decide (nb < up (4 + m)) = false := by simp; omega
          have HM := Lib.hid hm
          have HC := Lib.hid hck
          have HD := Lib.hid hfd
          have HFL := Lib.hid hfl
          have HLB := Lib.hid hlb
          have hq : up (4 + m) ≤ nb := by omega
          clear hm hck hfd hr1l hfl hlb hsm
          go_wp2_with fail
          have eqT : ((ck.k.toNat : Int) == (ck.k.toNat : Int) && (ck.f.toNat : Int) == (ck.f.toNat : Int) && eqB ck.xs ck.xs) = true := by simp [eqB]
          have EQ := Lib.hid eqT
          have hr1d : Rd (w2.alloc (.cells #[.int .u8 (ck.k.toNat : Int), .int .u8 (ck.f.toNat : Int), .slice A2 m c2] 45)).drew A1 n1 ck.xs := hr1
          have hB2d : Rd (w2.alloc (.cells #[.int .u8 (ck.k.toNat : Int), .int .u8 (ck.f.toNat : Int), .slice A2 m c2] 45)).drew A2 m ck.xs := hB2'.rd
          have t2d := t2'.drew
          have hgl := World.block_lt_of_cell? _ _ k0
          have n2 : (w2.alloc (.cells #[.int .u8 (ck.k.toNat : Int), .int .u8 (ck.f.toNat : Int), .slice A2 m c2] 45)).drew.heap[w2.heap.size]? = some (.cells #[.int .u8 (ck.k.toNat : Int), .int .u8 (ck.f.toNat : Int), .slice A2 m c2] 45 (0, 0)) := heap_alloc_new w2 _
          clear eqT
          go_region_held3 (fun w' => w'.cell? ⟨w2.heap.size, 0, none⟩ = some (.int .u8 (ck.k.toNat : Int)) ∧ w'.cell? ⟨w2.heap.size, 1, none⟩ = some (.int .u8 (ck.f.toNat : Int)) ∧ w'.cell? ⟨w2.heap.size, 2, none⟩ = some (.slice A2 m c2) ∧
              w'.cell? ⟨g, off + k * 3, none⟩ = some (.int .u8 (ck.k.toNat : Int)) ∧ w'.cell? ⟨g, off + k * 3 + 1, none⟩ = some (.int .u8 (ck.f.toNat : Int)) ∧ w'.cell? ⟨g, off + k * 3 + 2, none⟩ = some (.slice A1 n1 c1))
            (first | go_keep | (go_show; fail))
            (first
              | (go_at_call 53; refine (same_any _ _ _ _ _ _ _ _ _ _ ck.xs ck.xs _ hB2d hr1d (by omega)).mono ?_; rintro e w3 ⟨rfl, hb3⟩; rw [EQ.out]; have n3 := stays (a := (w2.alloc (.cells #[.int .u8 (ck.k.toNat : Int), .int .u8 (ck.f.toNat : Int), .slice A2 m c2] 45)).drew) n2 hb3; have q3 := fun i => cell_of_row w3 w2.heap.size i _ 45 (0, 0) n3; have r0 := (hb3.cell (p := ⟨g, off + k * 3, none⟩) hgl).trans k0; have r1 := (hb3.cell (p := ⟨g, off + k * 3 + 1, none⟩) hgl).trans k1; have r2 := (hb3.cell (p := ⟨g, off + k * 3 + 2, none⟩) hgl).trans k2))
          have hqb : (up (4 + m) : Int) ≤ (nb : Int) := by omega
          have t3 := t2d.trans (hb3.mono t2d.size)
          have hR3 := hR.below_ (w0 := wr) ((((Below.refl _ _).trans hb2).alloc hb2.size (.cells #[.int .u8 (ck.k.toNat : Int), .int .u8 (ck.f.toNat : Int), .slice A2 m c2] 45)).drew.trans (hb3.mono (by have := hb2.size; simp; omega)))
          go_wp2
          go_roundw
          case rel =>
            refine ⟨k + 1, _, nb - up (4 + m), cb - up (4 + m), by omega, by go_num, rfl, by omega, by omega, by omega, ?_, t3⟩
            have hcut := hR3.cut (k := up (4 + m)) (m := nb - up (4 + m)) (by omega) hnc _ rfl
            have e : ((flat (cs.drop k)).drop (up (4 + m))).take (nb - up (4 + m)) = flat (cs.drop (k + 1)) := by
              rw [HD.out, ← HLB.out, List.drop_left, List.take_of_length_le (by have := HFL.out; rw [HLB.out]; omega)]
            rw [e] at hcut
            exact hcut
          case measure => simp [intOf]; omega
        · obtain rfl : n = k := by omega
          have hnil : flat (cs.drop n) = [] := by rw [List.drop_of_length_le (by rw [HL.out]; omega)]; rfl
          rw [hnil] at hR
          have h0 := hR.len
          obtain rfl : nb = 0 := by simpa using h0.symm
          clear hnil h0 hlt hk
          go_wp2_with fail
          refine (read_any Ab 0 cb [] wr hR hnc hcm (by omega)).mono ?_
          rintro e w2 h2
          unfold RdOut at h2
          rw [nil_bad] at h2
          obtain ⟨rfl, hb2⟩ := h2
          have t2 := hb.trans (hb2.mono hb.size)
          have t2' := t2.alloc t2.size (.cells #[.int .u8 0, .int .u8 0, .slice none 0 0] 45)
          go_wp2_with (go_at_call 48; refine (works08_any _).mono ?_; rintro e w3 ⟨rfl, hb3⟩)
          go_ret
          exact ⟨rfl, t2'.trans (hb3.mono t2'.size)⟩

theorem walk (A : Option Addr) (n c : Nat) (cs : List Ck) (w : World) (hx : Cks w A n cs) (hn : n ≤ c) (hc : c ≤ 9223372036854775807) :
    Calls Try.prog 16 #[.slice A n c] w fun e w' => e = .returned (.bool true) ∧ Below w.heap.size w w' := by
  by_cases h : 60 < n
  · exact walk_big A n c w (by omega) h
  · exact walk_go A n c cs w hx (by omega)

set_option maxRecDepth 100000 in
theorem lifted (os : Os) (started : os.Started) (H : Type) (enc : TypeId × Value → H) :
    ReturnsInHanded {} Try.checked os 16 .any (Rows.chunkRowSpec.pre6 enc Try.prog Try.f16 Rows.chunkRowRow.domain false) (Rows.chunkRowSpec.post enc Try.prog Try.f16 false true false false) := by
  refine returnsInHanded_of_change (C := Try.checked) own started (by kernel_rfl) Try.func16
    (ChangeSpec.witness6 (enc := enc) (C := Try.checked) false ⟨#[], #[.slice none 0 0], []⟩ 8 (by kernel_rfl) (by kernel_rfl) (by kernel_rfl) (by kernel_rfl)) ?_
  intro W base args ds gs before hval0 hW _ _
  have hval : ∀ (j : Nat) t v, Try.f16.params[j]? = some t → args[j]? = some v → Value.okWide Try.prog W .any base t v := hval0
  have hW' := hW
  obtain ⟨p, q, hA0, hV, rfl, _, _⟩ := hW
  have hA : DataW.TrodAll enc Try.prog W 0 (fun _ => true) true Try.f16.params.toList args.toList ds p := hA0
  have hA1 := hA
  rw [Try.params16] at hA hval
  obtain ⟨v0, vs0, d0, ds0, p0, q0, hargs, rfl, rfl, h0, r0⟩ := trodAll_cons hA
  obtain ⟨rfl, rfl, rfl⟩ := trodAll_nil r0
  obtain rfl : args = #[v0] := by cases args; simp_all
  obtain ⟨rfl, rfl⟩ := trodVars_none hV
  obtain ⟨A0, n0, c0, cs0, rfl, hx0, hn0, hc0⟩ := chunks_of (hval 0 41 v0 rfl rfl) h0
  clear hA0 hval0
  simp only [List.append_nil] at hW' hA1
  refine (walk A0 n0 c0 cs0 W hx0 hn0 hc0).mono fun e W' ⟨he, bel⟩ => ?_
  subst he
  exact ⟨_, rfl, post_law (by kernel_rfl) rfl rfl (by rw [Try.params16]; intro t ht; simp at ht; subst ht; exact ⟨by kernel_rfl, of_decide_eq_true (by kernel_rfl)⟩) hW' hA1 bel⟩

theorem closed : joinedFacts Try.prog 16 Try.f16 Rows.chunkRowSpec Rows.chunkRowRow = true :=
  closed_of (by kernel_rfl) laidOut mapsRowed0 (by kernel_rfl) (by kernel_rfl) (by kernel_rfl) stops0 (by kernel_rfl) knobs0 (by kernel_rfl) (by kernel_rfl) (by kernel_rfl) (by kernel_rfl) (by kernel_rfl) (by kernel_rfl) (by kernel_rfl)
    (by kernel_rfl) (by kernel_rfl) (by kernel_rfl) (by kernel_rfl) (by kernel_rfl) (by kernel_rfl) (by kernel_rfl) (by kernel_rfl) heard0 enter0 final0 rfl make0 rfl rfl rfl (by kernel_rfl) (by kernel_rfl) (by kernel_rfl)
theorem named : Try.prog.funcNamed Rows.chunkRowRow.func = some 16 := by kernel_rfl
theorem inst : Try.f16.isInstance Try.prog Rows.chunkRowRow.origin Rows.chunkRowRow.targs := of_decide_eq_true (by kernel_rfl)
theorem wrap : Try.f16.isWrapper Try.prog Rows.chunkRowRow.wrapper Rows.chunkRowRow.mainSum := by
  unfold Func.isWrapper
  rw [if_neg (by decide +kernel)]
  exact ⟨rfl, rfl⟩
theorem over : Rows.chunkRowRow.holds Try.pinned (OpenSpec.ofChange Rows.chunkRowSpec) :=
  OpenClaim.holds_of_wide 16 Try.f16 rfl rfl rfl rfl rfl rfl rfl ⟨rfl, rfl, rfl, rfl, rfl⟩ rfl rfl rfl rfl rfl named Try.func16 closed inst wrap
    (fun os started H enc _ => lifted os started H enc)

/-- The statement. -/
theorem proved : Rows.ChunkRowSaid := over
#print axioms proved
end Go.Proofs.Ythndlhflkbidiaa.chunkRow
