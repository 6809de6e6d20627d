/-
  Of chunks that are small enough all may stand in one packet, but those of three kinds; a packet that fits may be written, and one chunk more as well. No condition.
-/
import Derived.Test.YthndlhflkbidiaaAlW
import Derived.Test.YthndlhflkbidiaaWk10
import Derived.Test.YthndlhflkbidiaaOpenP
namespace Go.Proofs.Ythndlhflkbidiaa.packetAlone
open Go.Proofs.Ythndlhflkbidiaa
open Go.ChangeShapes Go.WideShapes Go.ChangeAt Go.RowKit

set_option maxRecDepth 100000 in
set_option maxHeartbeats 4000000 in
theorem walk (A : Option Addr) (n c : Nat) (xs : List UInt8) (x : Nat) (w : World) (hx : Rd w A n xs) (hn : n ≤ c) (_hc : c ≤ 9223372036854775807) (hxb : x < 256) :
    Calls Try.prog 10 #[.slice A n c, .int .u8 (x : Int)] w fun e w' => e = .returned (.bool true) ∧ Below w.heap.size w w' := by
  have HL := Lib.hid hx.len
  by_cases hbig : 100 < n
  · have hbig' : (100 : Int) < (n : Int) := by omega
    go_enter Try.func10, Try.ntmps10
    go_wp2_with (go_at_call 41; refine (works10_any _).mono ?_; rintro e w2 ⟨rfl, hb2⟩)
    go_ret
    exact ⟨rfl, hb2⟩
  · have hbig' : ¬ (100 : Int) < (n : Int) := by omega
    have H100 := Lib.hid (show n ≤ 100 by omega)
    obtain ⟨i0, hi0, hz0, hz1, hz2⟩ := info_parts info45'
    go_enter Try.func10, Try.ntmps10
    go_wp2_with fail
    go_loopw [6, 7] (fun a i wr => ∃ (k : Nat) (v : Value) (ps : List Cp), k ≤ n ∧ i = .int .i64 (k : Int) ∧ a = .int .i64 (alN xs k : Int) ∧ AlI w wr xs k v ps) (fun _ i _ => n - (intOf i).toNat)
    case atStart => exact ⟨0, .slice none 0 0, [], by omega, rfl, rfl, (Below.refl _ _).alloc (Nat.le_refl _) _, heap_alloc_new w _, ownC_nil _ _, rfl, fun p hp => absurd hp (by simp)⟩
    case round =>
      obtain ⟨k, v, ps, hk, rfl, rfl, hI⟩ := hrel
      obtain ⟨Av, cv, rfl, hvc, hvm⟩ := hI.own.form
      have hpl : ps.length = k := by
        have := congrArg List.length hI.map
        rwa [List.length_map, alCs_length] at this
      subst hpl
      have hb := hI.below
      have q0 := fun i => cell_of_row wr w.heap.size i _ 43 (0, 0) hI.box
      have f0 := fun i => frozen_of_row wr w.heap.size i _ 43 hI.box
      have HI := Lib.hid hI
      have hal := alN_le xs ps.length
      by_cases hlt : ps.length < n
      · have hlt' : (ps.length : Int) < n := by omega
        obtain ⟨b, off, rfl, hcell⟩ := hx.at_ hlt
        have hbl : b < w.heap.size := World.block_lt_of_cell? w _ hcell
        have hcr := (hb.cell (p := ⟨b, off + ps.length, none⟩) hbl).trans hcell
        have hown0 := hI.own
        clear hI
        go_upto_region 8 with fail
        have hmk := fun W => run_make_bytes R22 ((ps.length : Int).tmod 9) (ps.length % 9) (by rw [Int.tmod_eq_emod_of_nonneg (by omega)]; omega) (by omega) W
        have nd := HI.out.box
        have ld := lt_of_heap nd
        have na := fun o => (Below.heap_alloc wr o _ ld).trans nd
        have nb := fun o o2 => (Below.heap_alloc (wr.alloc o) o2 _ (lt_of_heap (na o))).trans (na o)
        have q2 := fun o i => cell_of_row (wr.alloc o) w.heap.size i _ 43 (0, 0) (na o)
        have q3 := fun o o2 i => cell_of_row ((wr.alloc o).alloc o2) w.heap.size i _ 43 (0, 0) (nb o o2)
        have hbl' : b < wr.heap.size := Nat.lt_of_lt_of_le hbl hb.size
        have k2 := fun o => (World.cell?_alloc_lt wr o ⟨b, off + ps.length, none⟩ hbl').trans hcr
        have hownA := (hown0.alloc (.cells (bs (List.replicate (ps.length % 9) 0)).toArray 5)).alloc (.cells #[.int .u8 (gb xs ps.length : Int), .int .u8 0, .slice (some ⟨wr.heap.size, 0, none⟩) (ps.length % 9) (ps.length % 9)] 45)
        have xR := heap_alloc_new (wr.alloc (.cells (bs (List.replicate (ps.length % 9) 0)).toArray 5)) (.cells #[.int .u8 (gb xs ps.length : Int), .int .u8 0, .slice (some ⟨wr.heap.size, 0, none⟩) (ps.length % 9) (ps.length % 9)] 45)
        rw [World.size_alloc] at xR
        have nX := nb (.cells (bs (List.replicate (ps.length % 9) 0)).toArray 5) (.cells #[.int .u8 (gb xs ps.length : Int), .int .u8 0, .slice (some ⟨wr.heap.size, 0, none⟩) (ps.length % 9) (ps.length % 9)] 45)
        have lX := lt_of_heap nX
        have hbs : w.heap.size + 1 ≤ ((wr.alloc (.cells (bs (List.replicate (ps.length % 9) 0)).toArray 5)).alloc (.cells #[.int .u8 (gb xs ps.length : Int), .int .u8 0, .slice (some ⟨wr.heap.size, 0, none⟩) (ps.length % 9) (ps.length % 9)] 45)).heap.size := by have := hb.size; simp; omega
        have hlo : ∀ g, (Value.slice Av ps.length cv).ownBlock = some g → w.heap.size + 1 ≤ g := fun g e => (hown0.lt g e).1
        go_cut [33] from 16 to 55 (fun x wx => ∃ v' ps', AlI w wx xs (ps.length + 1) v' ps')
        case first =>
          go_region_law (first
            | (refine step_append_lies _ (by rfl) (.tmp 23) (.tmp 32) 41 (by rfl) (w.heap.size + 1) 45 i0 _ 3 32 Try.underlying41 hi0 hz0 hz1 hz2 rfl (by omega) (.slice Av ps.length cv) ps.length (rowsV ps) (by rfl) hownA ⟨wr.heap.size + 1, 0, none⟩ 1 1 [.int .u8 (gb xs ps.length : Int), .int .u8 0, .slice (some ⟨wr.heap.size, 0, none⟩) (ps.length % 9) (ps.length % 9)] (by rfl) (by rfl) (World.news_of_block (fr := (0, 0)) xR) (by simp [Value.oneCell']) (by omega) (by unfold maxLen; omega) (by omega) hbs (wr.heap.size + 2) (by simp) ?_; intro gg cap w4 hown4 hg4 hat4 hlt4; have n4 : w4.heap[w.heap.size]? = some (.cells #[.int .u32 1, .slice Av ps.length cv] 43 (0, 0)) := (hg4.block w.heap.size lX (fun e => by have := hlo _ e.symm; omega)).trans nX; have q4 := fun i => cell_of_row w4 w.heap.size i _ 43 (0, 0) n4; have f4 := fun i => frozen_of_row w4 w.heap.size i _ 43 n4)
            | fail)
          all_goals (
            go_wp2_with fail
            go_meet
            exact HI.out.append hg4 hown4)
        case rest =>
          obtain ⟨v', ps', hI2⟩ := hcut
          have hcr2 := (hI2.below.cell (p := ⟨b, off + ps.length, none⟩) hbl).trans hcell
          have HI2 := Lib.hid hI2
          have hiff := alK_iff xs ps.length
          have hg := gb_lt xs ps.length
          clear hI2 hmk q2 q3 k2 na nb nX lX hbs hlo xR hownA hown0
          by_cases h1 : gb xs ps.length = 1
          · have HA := Lib.hid (show alN xs (ps.length + 1) = alN xs ps.length + 1 by rw [alN, if_pos (hiff.2 (by omega))])
            have e1 : ((gb xs ps.length : Int) == 1) = true := by simp; omega
            clear hiff
            clear h1
            go_wp2
            go_roundw
            case rel => exact ⟨ps.length + 1, v', ps', by omega, by go_num, by rw [HA.out]; go_num, HI2.out⟩
            case measure => simp [intOf]; omega
          by_cases h2 : gb xs ps.length = 2
          · have HA := Lib.hid (show alN xs (ps.length + 1) = alN xs ps.length + 1 by rw [alN, if_pos (hiff.2 (by omega))])
            have e1 : ((gb xs ps.length : Int) == 1) = false := by simp; omega
            have e2 : ((gb xs ps.length : Int) == 2) = true := by simp; omega
            clear hiff
            clear h1 h2
            go_wp2
            go_roundw
            case rel => exact ⟨ps.length + 1, v', ps', by omega, by go_num, by rw [HA.out]; go_num, HI2.out⟩
            case measure => simp [intOf]; omega
          by_cases h14 : gb xs ps.length = 14
          · have HA := Lib.hid (show alN xs (ps.length + 1) = alN xs ps.length + 1 by rw [alN, if_pos (hiff.2 (by omega))])
            have e1 : ((gb xs ps.length : Int) == 1) = false := by simp; omega
            have e2 : ((gb xs ps.length : Int) == 2) = false := by simp; omega
            have e14 : ((gb xs ps.length : Int) == 14) = true := by simp; omega
            clear hiff
            clear h1 h2 h14
            go_wp2
            go_roundw
            case rel => exact ⟨ps.length + 1, v', ps', by omega, by go_num, by rw [HA.out]; go_num, HI2.out⟩
            case measure => simp [intOf]; omega
          · have HA := Lib.hid (show alN xs (ps.length + 1) = alN xs ps.length by rw [alN, if_neg (fun h => by have := hiff.1 h; omega)]; rfl)
            have e1 : ((gb xs ps.length : Int) == 1) = false := by simp; omega
            have e2 : ((gb xs ps.length : Int) == 2) = false := by simp; omega
            have e14 : ((gb xs ps.length : Int) == 14) = false := by simp; omega
            clear hiff
            clear h1 h2 h14
            go_wp2
            go_roundw
            case rel => exact ⟨ps.length + 1, v', ps', by omega, by go_num, by rw [HA.out], HI2.out⟩
            case measure => simp [intOf]; omega
      · obtain rfl : n = ps.length := by omega
        obtain ⟨V, hV⟩ : ∃ V : UInt8, x = V.toNat := ⟨UInt8.ofNat x, by simp [Nat.mod_eq_of_lt hxb]⟩
        subst hV
        have hmay := al_may xs ps.length
        have h100 := H100.out
        have hfit := al_fits xs ps.length V h100
        have hck := (hI.own.cks hI.bod.ok).2
        rw [hI.map] at hck
        have hown0 := hI.own
        have ld := lt_of_heap hI.box
        have htail : alK V = decide (V.toNat = 1 ∨ V.toNat = 2 ∨ V.toNat = 14) := by
          unfold alK
          rw [Bool.eq_iff_iff]
          simp [← UInt8.toNat_inj]
          omega
        have HT := Lib.hid htail
        obtain ⟨a, ha⟩ : ∃ a, a = alN xs ps.length := ⟨_, rfl⟩
        rw [← ha] at hmay hfit
        rw [← ha]
        have HNA := Lib.hid (show a ≤ ps.length by rw [ha]; exact alN_le xs ps.length)
        have h0a : ps.length = 0 → a = 0 := fun h => by have := alN_le xs ps.length; omega
        obtain ⟨ks, hks⟩ : ∃ x, x = alCs xs ps.length := ⟨_, rfl⟩
        have hksl : ∀ c ∈ ks, c.xs.length ≤ 1000000 := by rw [hks]; exact fun c hc => by have := alCs_mem c hc; omega
        rw [← hks] at hmay hfit hck
        have HKSL := Lib.hid hksl
        have HKS := Lib.hid hks
        clear ha hksl htail hks hal hI
        have hcase : (ps.length = 0 ∧ a = 0 ∧ mayB ks = false) ∨ (0 < ps.length ∧ a = 0 ∧ mayB ks = true) ∨ (0 < ps.length ∧ a ≠ 0 ∧ ps.length = 1 ∧ mayB ks = true) ∨ (0 < ps.length ∧ a ≠ 0 ∧ ps.length ≠ 1 ∧ mayB ks = false) := by
          by_cases h1 : ps.length = 0
          · exact .inl ⟨h1, h0a h1, by rw [hmay]; simp [h1]⟩
          by_cases h2 : a = 0
          · exact .inr (.inl ⟨by omega, h2, by rw [hmay]; simp [h2]; omega⟩)
          by_cases h3 : ps.length = 1
          · exact .inr (.inr (.inl ⟨by omega, h2, h3, by rw [hmay]; simp [h3]⟩))
          · exact .inr (.inr (.inr ⟨by omega, h2, h3, by rw [hmay]; simp [h2, h3]⟩))
        obtain ⟨mv, hmv⟩ : ∃ v, v = mayB ks := ⟨_, rfl⟩
        rw [← hmv] at hcase
        have HMV := Lib.hid hmv
        clear hmv
        have hxc : (V.toNat = 1) ∨ (V.toNat ≠ 1 ∧ V.toNat = 2) ∨ (V.toNat ≠ 1 ∧ V.toNat ≠ 2 ∧ V.toNat = 14) ∨ (V.toNat ≠ 1 ∧ V.toNat ≠ 2 ∧ V.toNat ≠ 14) := by omega
        clear hmay h0a
        clear f0 q0
        go_upto_region 11 with fail
        go_cut [8] from 56 to 67 (fun b wx => b = .bool mv ∧ wx = wr)
        case first =>
          rcases hcase with ⟨hN, hA, rfl⟩ | ⟨hN, hA, rfl⟩ | ⟨hN, hA, hN1, rfl⟩ | ⟨hN, hA, hN1, rfl⟩
          · have hgt : ¬ (0 : Int) < (ps.length : Int) := by omega
            have hA0 : ((a : Int) == 0) = true := by simp; omega
            clear hN hA
            go_wp2_with fail
            go_meet
            exact ⟨rfl, rfl⟩
          · have hgt : (0 : Int) < (ps.length : Int) := by omega
            have hA0 : ((a : Int) == 0) = true := by simp; omega
            clear hN hA
            go_wp2_with fail
            go_meet
            exact ⟨rfl, rfl⟩
          · have hgt : (0 : Int) < (ps.length : Int) := by omega
            have hA0 : ((a : Int) == 0) = false := by simp; omega
            have hN1' : ((ps.length : Int) == 1) = true := by simp; omega
            clear hN hA
            go_wp2_with fail
            go_meet
            exact ⟨rfl, rfl⟩
          · have hgt : (0 : Int) < (ps.length : Int) := by omega
            have hA0 : ((a : Int) == 0) = false := by simp; omega
            have hN1' : ((ps.length : Int) == 1) = false := by simp; omega
            clear hN hA
            go_wp2_with fail
            go_meet
            exact ⟨rfl, rfl⟩
        case rest =>
          obtain ⟨rfl, rfl⟩ := hcut
          obtain ⟨wr, rfl⟩ : ∃ x : World, x = wc := ⟨_, rfl⟩
          have q0 := fun i => cell_of_row wr w.heap.size i _ 43 (0, 0) HI.out.box
          go_upto_region 12 with fail
          go_cut [73] from 68 to 73 (fun x wx => x = .bool false ∧ Below wr.heap.size wr wx)
          case first =>
            obtain ⟨z, hz⟩ : ∃ z, z = (pkB 1 ks).length := ⟨_, rfl⟩
            have hzl := al_len 1 ks _ HMV.out.symm
            rw [← hz] at hzl
            go_wp2_with fail
            refine (write10_any 1 Av ps.length cv ks _ (by decide) hck (by omega)).mono ?_
            rw [← hz]
            clear hz
            rintro e w2 ⟨A2, c2, rfl, hB2, hb2⟩
            cases mv with
            | false =>
              obtain rfl : z = 0 := hzl.1 rfl
              clear hzl
              go_wp2_with fail
              go_meet
              exact ⟨rfl, hb2⟩
            | true =>
              have hzp : (0 : Int) < (z : Int) := by have := hzl.2 rfl; omega
              have hzd : decide (0 < z) = true := decide_eq_true (hzl.2 rfl)
              clear hzl
              go_wp2_with fail
              go_meet
              exact ⟨by simp <;> omega, hb2⟩
          case rest =>
            obtain ⟨rfl, hb2⟩ := hcut
            obtain ⟨w2, rfl⟩ : ∃ w2 : World, w2 = wc := ⟨_, rfl⟩
            have n2 := stays HI.out.box hb2
            have l2 := lt_of_heap n2
            have n3 := (Below.heap_alloc w2 (.cells #[.int .u8 (V.toNat : Int), .int .u8 0, .slice none 0 0] 45) _ l2).trans n2
            have q3 := fun i => cell_of_row (w2.alloc (.cells #[.int .u8 (V.toNat : Int), .int .u8 0, .slice none 0 0] 45)) w.heap.size i _ 43 (0, 0) n3
            have hck3 := (hck.below hb2).alloc (.cells #[.int .u8 (V.toNat : Int), .int .u8 0, .slice none 0 0] 45)
            have r3 := heap_alloc_new w2 (.cells #[.int .u8 (V.toNat : Int), .int .u8 0, .slice none 0 0] 45)
            have b3 := hb2.alloc hb2.size (.cells #[.int .u8 (V.toNat : Int), .int .u8 0, .slice none 0 0] 45)
            clear q0
            go_upto_region 15 with fail
            go_cut [85] from 76 to 85 (fun x wx => x = .bool (alK V) ∧ wx = w2.alloc (.cells #[.int .u8 (V.toNat : Int), .int .u8 0, .slice none 0 0] 45))
            case first =>
              rcases hxc with e1 | ⟨e1, e2⟩ | ⟨e1, e2, e14⟩ | ⟨e1, e2, e14⟩
              · have hd : alK V = true := by rw [HT.out]; simp; omega
                have HD := Lib.hid hd
                have e1' : ((V.toNat : Int) == 1) = true := by simp; omega
                clear hd e1
                go_wp2_with fail
                go_meet
                exact ⟨by rw [HD.out], rfl⟩
              · have hd : alK V = true := by rw [HT.out]; simp; omega
                have HD := Lib.hid hd
                have e1' : ((V.toNat : Int) == 1) = false := by simp; omega
                have e2' : ((V.toNat : Int) == 2) = true := by simp; omega
                clear hd e1 e2
                go_wp2_with fail
                go_meet
                exact ⟨by rw [HD.out], rfl⟩
              · have hd : alK V = true := by rw [HT.out]; simp; omega
                have HD := Lib.hid hd
                have e1' : ((V.toNat : Int) == 1) = false := by simp; omega
                have e2' : ((V.toNat : Int) == 2) = false := by simp; omega
                have e14' : ((V.toNat : Int) == 14) = true := by simp; omega
                clear hd e1 e2 e14
                go_wp2_with fail
                go_meet
                exact ⟨by rw [HD.out], rfl⟩
              · have hd : alK V = false := by rw [HT.out]; simp; omega
                have HD := Lib.hid hd
                have e1' : ((V.toNat : Int) == 1) = false := by simp; omega
                have e2' : ((V.toNat : Int) == 2) = false := by simp; omega
                have e14' : ((V.toNat : Int) == 14) = false := by simp; omega
                clear hd e1 e2 e14
                go_wp2_with fail
                go_meet
                exact ⟨by rw [HD.out], rfl⟩
            case rest =>
              obtain ⟨rfl, rfl⟩ := hcut
              obtain ⟨d, hd⟩ : ∃ d, d = alK V := ⟨_, rfl⟩
              rw [← hd] at hfit
              rw [← hd]
              obtain ⟨a2, ha2⟩ : ∃ a2, a2 = a + (if d = true then 1 else 0) := ⟨_, rfl⟩
              rw [← ha2] at hfit
              obtain ⟨fv, hfv⟩ : ∃ fv, fv = (decide (a2 = 0) || decide (ps.length = 0)) := ⟨_, rfl⟩
              rw [← hfv] at hfit
              have HFV := Lib.hid hfv
              have HFIT := Lib.hid hfit
              have HA2 := Lib.hid ha2
              have ha3 : a2 ≤ a + 1 := by rw [ha2]; split <;> omega
              clear hd hfv hfit ha2
              have hna : a ≤ ps.length := HNA.out
              go_upto_if 85 with fail
              go_cut [6] from 86 to 87 (fun x wx => x = .int .i64 (a2 : Int) ∧ wx = w2.alloc (.cells #[.int .u8 (V.toNat : Int), .int .u8 0, .slice none 0 0] 45))
              case first =>
                cases d
                · go_wp2_with fail
                  go_meet
                  exact ⟨by rw [HA2.out]; rfl, rfl⟩
                · go_wp2_with fail
                  go_meet
                  exact ⟨by rw [HA2.out]; rfl, rfl⟩
              case rest =>
                obtain ⟨rfl, rfl⟩ := hcut
                go_upto_region 17 with fail
                go_cut [10] from 88 to 90 (fun x wx => x = .bool fv ∧ Below (w2.heap.size + 1) (w2.alloc (.cells #[.int .u8 (V.toNat : Int), .int .u8 0, .slice none 0 0] 45)) wx)
                case first =>
                  go_wp2_with fail
                  refine (fits_any 1 Av ps.length cv ks ⟨V, 0, []⟩ none 0 0 1048576 _ hck3 (Rd.nil _ _) (by omega) (by omega) (by omega) HKSL.out (by omega)).mono ?_
                  rw [HFIT.out.1]
                  rintro e w4 ⟨rfl, hb4⟩
                  go_wp2_with fail
                  go_meet
                  exact ⟨rfl, by simpa using hb4⟩
                case rest =>
                  obtain ⟨rfl, hb4⟩ := hcut
                  obtain ⟨w4, rfl⟩ : ∃ x : World, x = wc := ⟨_, rfl⟩
                  have hb4' : Below (w2.alloc (.cells #[.int .u8 (V.toNat : Int), .int .u8 0, .slice none 0 0] 45)).heap.size (w2.alloc (.cells #[.int .u8 (V.toNat : Int), .int .u8 0, .slice none 0 0] 45)) w4 := by simpa using hb4
                  have n4 := stays n3 hb4'
                  have r4 := stays r3 hb4'
                  have b4 := b3.trans (hb4'.mono b3.size)
                  have q4 := fun i => cell_of_row w4 w.heap.size i _ 43 (0, 0) n4
                  have s4 := fun i => cell_of_row w4 w2.heap.size i _ 45 (0, 0) r4
                  clear q3 n3 r3 b3 hb4 hb4' hck3
                  go_upto_region 18 with fail
                  go_cut [99] from 91 to 99 (fun x wx => x = .bool false ∧ wx = w4)
                  case first =>
                    have hfc : (a2 = 0 ∧ fv = true) ∨ (a2 ≠ 0 ∧ ps.length = 0 ∧ fv = true) ∨ (a2 ≠ 0 ∧ ps.length ≠ 0 ∧ fv = false) := by
                      rw [HFV.out]
                      by_cases h1 : a2 = 0
                      · simp [h1]
                      · by_cases h2 : ps.length = 0
                        · simp [h1, h2]
                        · simp [h1, h2]
                    rcases hfc with ⟨h1, rfl⟩ | ⟨h1, h2, rfl⟩ | ⟨h1, h2, rfl⟩
                    · have e1 : ((a2 : Int) == 0) = true := by simp; omega
                      clear h1
                      go_wp2_with fail
                      go_meet
                      exact ⟨rfl, rfl⟩
                    · have e1 : ((a2 : Int) == 0) = false := by simp; omega
                      have e2 : ((ps.length : Int) == 0) = true := by rw [beq_iff_eq]; omega
                      clear h1 h2
                      go_wp2_with fail
                      go_meet
                      exact ⟨rfl, rfl⟩
                    · have e1 : ((a2 : Int) == 0) = false := by simp; omega
                      have e2 : ((ps.length : Int) == 0) = false := by rw [beq_eq_false_iff_ne]; omega
                      clear h1 h2
                      go_wp2_with fail
                      go_meet
                      exact ⟨rfl, rfl⟩
                  case rest =>
                    obtain ⟨rfl, rfl⟩ := hcut
                    obtain ⟨w4, rfl⟩ : ∃ x : World, x = wc := ⟨_, rfl⟩
                    go_upto_region 20 with fail
                    have hown4 := (hown0.below b4).alloc (.cells #[.int .u8 (V.toNat : Int), .int .u8 0, .slice none 0 0] 45)
                    have b5 := b4.alloc b4.size (.cells #[.int .u8 (V.toNat : Int), .int .u8 0, .slice none 0 0] 45)
                    have news := cells_one (ck := ⟨V, 0, []⟩) (B := none) (d := 0) rfl (heap_alloc_new w4 (.cells #[.int .u8 (V.toNat : Int), .int .u8 0, .slice none 0 0] 45))
                    have hs5 : w.heap.size + 1 ≤ (w4.alloc (.cells #[.int .u8 (V.toNat : Int), .int .u8 0, .slice none 0 0] 45)).heap.size := by have := b4.size; have := hb.size; have := lt_of_heap HI.out.box; simp; omega
                    have hzl := al_len 1 (ks ++ [⟨V, 0, []⟩]) _ HFIT.out.2
                    obtain ⟨z, hz⟩ : ∃ z, z = (pkB 1 (ks ++ [⟨V, 0, []⟩])).length := ⟨_, rfl⟩
                    rw [← hz] at hzl
                    have HZ := Lib.hid hz
                    have HZL := Lib.hid hzl
                    clear hz hzl
                    go_wp2_with (at_builtin; refine wpList_chunks _ rfl (.tmp 101) (.tmp 103) rfl (w.heap.size + 1) _ ps [⟨⟨V, 0, []⟩, none, 0⟩] rfl hown4 ⟨w4.heap.size, 0, none⟩ 1 1 rfl rfl news (by omega) hs5 ?_; intro A6 c6 w6 hown6 hg6; obtain ⟨n6, n7, hck7, b7⟩ := HI.out.last b5 rfl hown6 hg6; rw [← HKS.out] at hck7; have q6 := fun i => cell_of_row w6 w.heap.size i _ 43 (0, 0) n6; have f6 := fun i => frozen_of_row w6 w.heap.size i _ 43 n6; have q7 := fun i => cell_of_row (w6.setCell ⟨w.heap.size, 1, none⟩ (.slice A6 (ps.length + 1) c6)) w.heap.size i _ 43 (0, 0) n7)
                    clear hg6 hown6 hown4 news hs5 n4 r4 q4 s4 b5 q6 f6 n6 hck hown0
                    refine (write10_any 1 _ (ps.length + 1) _ (ks ++ [⟨V, 0, []⟩]) _ (by decide) hck7 (by omega)).mono ?_
                    rw [← HZ.out]
                    rintro e w8 ⟨A8, c8, rfl, hB8, hb8⟩
                    have t8 := b7.trans (hb8.mono b7.size)
                    clear hB8 hck7
                    cases fv with
                    | false =>
                      obtain rfl : z = 0 := HZL.out.1 rfl
                      go_wp2_with (go_at_call 41; refine (works10_any _).mono ?_; rintro e w9 ⟨rfl, hb9⟩)
                      go_ret
                      exact ⟨rfl, t8.trans (hb9.mono t8.size)⟩
                    | true =>
                      have hzp : (0 : Int) < (z : Int) := by have := HZL.out.2 rfl; omega
                      have hzd : decide (0 < z) = true := decide_eq_true (HZL.out.2 rfl)
                      go_wp2_with (go_at_call 41; refine (works10_any _).mono ?_; rintro e w9 ⟨rfl, hb9⟩)
                      go_ret
                      exact ⟨rfl, t8.trans (hb9.mono t8.size)⟩

set_option maxRecDepth 100000 in
theorem lifted (os : Os) (started : os.Started) (H : Type) (enc : TypeId × Value → H) :
    ReturnsInHanded {} Try.checked os 10 .any (Rows.packetAloneSpec.pre6 enc Try.prog Try.f10 Rows.packetAloneRow.domain false) (Rows.packetAloneSpec.post enc Try.prog Try.f10 false true false false) := by
  refine returnsInHanded_of_change (C := Try.checked) own started (by kernel_rfl) Try.func10
    (ChangeSpec.witness6 (enc := enc) (C := Try.checked) false ⟨#[], #[.slice none 0 0, .int .u8 0], []⟩ 8 (by kernel_rfl) (by kernel_rfl) (by kernel_rfl) (by kernel_rfl)) ?_
  intro W base args ds gs before hval0 hW _ _
  have hval : ∀ (j : Nat) t v, Try.f10.params[j]? = some t → args[j]? = some v → Value.okWide Try.prog W .any base t v := hval0
  have hW' := hW
  obtain ⟨p, q, hA0, hV, rfl, _, _⟩ := hW
  have hA : DataW.TrodAll enc Try.prog W 0 (fun _ => true) true Try.f10.params.toList args.toList ds p := hA0
  have hA1 := hA
  rw [Try.params10] at hA hval
  obtain ⟨v0, vs0, d0, ds0, p0, q0, hargs, rfl, rfl, h0, r0⟩ := trodAll_cons hA
  obtain ⟨v1, vs1, d1, ds1, p1, q1, rfl, rfl, rfl, h1, r1⟩ := trodAll_cons r0
  obtain ⟨rfl, rfl, rfl⟩ := trodAll_nil r1
  obtain rfl : args = #[v0, v1] := by cases args; simp_all
  obtain ⟨rfl, rfl⟩ := trodVars_none hV
  obtain ⟨A0, n0, c0, xs0, rfl, hx0, hn0, hc0⟩ := bytes_of (hval 0 22 v0 rfl rfl) h0
  obtain ⟨a1, rfl, hi1⟩ := u8_of (hval 1 5 v1 rfl rfl) h1
  clear hA0 hval0
  simp only [List.append_nil] at hW' hA1
  refine (walk A0 n0 c0 xs0 a1 W hx0 hn0 hc0 hi1).mono fun e W' ⟨he, bel⟩ => ?_
  subst he
  exact ⟨_, rfl, post_law (by kernel_rfl) rfl rfl (by rw [Try.params10]; intro t ht; simp at ht; rcases ht with rfl | rfl <;> exact ⟨by kernel_rfl, of_decide_eq_true (by kernel_rfl)⟩) hW' hA1 bel⟩

theorem closed : joinedFacts Try.prog 10 Try.f10 Rows.packetAloneSpec Rows.packetAloneRow = true :=
  closed_of (by kernel_rfl) laidOut mapsRowed0 (by kernel_rfl) (by kernel_rfl) (by kernel_rfl) stops0 (by kernel_rfl) knobs0 (by kernel_rfl) (by kernel_rfl) (by kernel_rfl) (by kernel_rfl) (by kernel_rfl) (by kernel_rfl) (by kernel_rfl)
    (by kernel_rfl) (by kernel_rfl) (by kernel_rfl) (by kernel_rfl) (by kernel_rfl) (by kernel_rfl) (by kernel_rfl) (by kernel_rfl) heard0 enter0 final0 rfl make0 rfl rfl rfl (by kernel_rfl) (by kernel_rfl) (by kernel_rfl)
theorem named : Try.prog.funcNamed Rows.packetAloneRow.func = some 10 := by kernel_rfl
theorem inst : Try.f10.isInstance Try.prog Rows.packetAloneRow.origin Rows.packetAloneRow.targs := of_decide_eq_true (by kernel_rfl)
theorem wrap : Try.f10.isWrapper Try.prog Rows.packetAloneRow.wrapper Rows.packetAloneRow.mainSum := by
  unfold Func.isWrapper
  rw [if_neg (by decide +kernel)]
  exact ⟨rfl, rfl⟩
theorem over : Rows.packetAloneRow.holds Try.pinned (OpenSpec.ofChange Rows.packetAloneSpec) :=
  OpenClaim.holds_of_wide 10 Try.f10 rfl rfl rfl rfl rfl rfl rfl ⟨rfl, rfl, rfl, rfl, rfl⟩ rfl rfl rfl rfl rfl named Try.func10 closed inst wrap
    (fun os started H enc _ => lifted os started H enc)

/-- The statement. -/
theorem proved : Rows.PacketAloneSaid := over
#print axioms proved
end Go.Proofs.Ythndlhflkbidiaa.packetAlone
