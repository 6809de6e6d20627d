/- May chunks stand in one packet: the program's and the document's. -/
import Derived.Test.YthndlhflkbidiaaPkW
namespace Go.Proofs.Ythndlhflkbidiaa
open Go.RowKit

theorem alB_eq (c : Ck) : alB (c.k.toNat : Int) = aloneK c := by
  unfold alB aloneK
  rw [Bool.eq_iff_iff]
  simp [← UInt8.toNat_inj]
  omega
theorem any_take {cs : List Ck} (f : Ck → Bool) {k : Nat} (h : k < cs.length) : (cs.take (k + 1)).any f = ((cs.take k).any f || f cs[k]) := by
  rw [List.take_succ_eq_append_getElem h, List.any_append]
  simp
theorem any_at {cs : List Ck} (f : Ck → Bool) {k : Nat} (h : k < cs.length) (hf : f cs[k] = true) : cs.any f = true := by
  rw [List.any_eq_true]
  exact ⟨cs[k], List.getElem_mem h, hf⟩

theorem wrong_any (c : Ck) (A1 : Option Addr) (n1 c1 p N C : Nat) (A : Option Addr) (w : World) (hr : Rd w A1 n1 c.xs) (hp : w.cell? ⟨p, 0, none⟩ = some (.slice A N C)) :
    Calls Try.prog 79 #[.agg #[.int .u8 (c.k.toNat : Int), .int .u8 (c.f.toNat : Int), .slice A1 n1 c1], .pointer (some ⟨p, 0, none⟩)] w fun e w' => e = .returned (.bool (wrongC N c)) ∧ Below w.heap.size w w' := by
  have hl := hr.len
  have hpl := World.block_lt_of_cell? w _ hp
  simp only at hpl
  have hp' := fun o => (World.cell?_alloc_lt w o ⟨p, 0, none⟩ hpl).trans hp
  have hpn : p ≠ w.heap.size := Nat.ne_of_lt hpl
  by_cases hb : 65531 < n1
  · have hb' : (65531 : Int) < (n1 : Int) := by omega
    have hT : wrongC N c = true := by unfold wrongC; rw [hl, decide_eq_true hb]; rfl
    go_enter Try.func79, Try.ntmps79
    go_wp2
    go_ret
    exact ⟨by rw [hT]; rfl, (Below.refl _ _).alloc (Nat.le_refl _) _⟩
  · have hb' : ¬ (65531 : Int) < (n1 : Int) := by omega
    have hA := alB_eq c
    have hT : wrongC N c = (aloneK c && decide (1 < N)) := by unfold wrongC; rw [hl, decide_eq_false hb]; rfl
    have HT := Lib.hid hT
    have HA := Lib.hid hA
    clear hT hl hA
    obtain ⟨b, hb⟩ : ∃ b, b = aloneK c := ⟨_, rfl⟩
    rw [← hb] at HT HA
    clear hb
    cases b
    all_goals (
      go_enter Try.func79, Try.ntmps79
      go_wp2_with (go_at_call 44; refine (alone_any _ _).mono ?_; rintro e w' ⟨rfl, rfl⟩; rw [HA.out])
      go_ret
      exact ⟨ret_bool (by rw [HT.out]; simp; try omega), (Below.refl _ _).alloc (Nat.le_refl _) _⟩)

def IxOut (w : World) (B : Bool) (e : Ending) (w' : World) : Prop := ∃ r : Int, e = .returned (.int .i64 r) ∧ decide (0 ≤ r) = B ∧ Below w.heap.size w w'
theorem index_any (A : Option Addr) (n c : Nat) (cs : List Ck) (p N C : Nat) (A' : Option Addr) (w : World) (hx : Cks w A n cs) (hp : w.cell? ⟨p, 0, none⟩ = some (.slice A' N C)) (hn : n ≤ 9223372036854775807) :
    Calls Try.prog 85 #[.slice A n c, .func (.func 79) #[] #[.pointer (some ⟨p, 0, none⟩)]] w (IxOut w (cs.any (wrongC N))) := by
  have HL := Lib.hid hx.len
  go_enter Try.func85, Try.ntmps85
  go_wp2
  go_loopw [8] (fun i wr => ∃ k : Nat, k ≤ n ∧ i = .int .i64 k ∧ (cs.take k).any (wrongC N) = false ∧ Below w.heap.size w wr) (fun i _ => n - (intOf i).toNat)
  case atStart => exact ⟨0, by omega, rfl, rfl, Below.refl _ _⟩
  case round =>
    obtain ⟨k, hk, rfl, ha, hb⟩ := hrel
    have HA := Lib.hid ha
    clear ha
    by_cases hlt : k < n
    · have hkl : k < cs.length := by rw [HL.out]; exact hlt
      have hlt' : (k : Int) < n := by omega
      obtain ⟨g, off, rfl, A1, n1, c1, k0, k1, k2, hr1, hn1, hc1⟩ := (hx.below hb).form hlt
      have hp1 := (hb.cell (World.block_lt_of_cell? w _ hp)).trans hp
      obtain ⟨ck, hck⟩ : ∃ ck, ck = cs[k]'hkl := ⟨_, rfl⟩
      rw [← hck] at k0 k1 hr1
      obtain ⟨v, hv⟩ : ∃ v, v = wrongC N ck := ⟨_, rfl⟩
      have HV := Lib.hid hv
      have HC := Lib.hid hck
      clear hv hck
      cases v
      · go_wp2_with (go_at_call 79; refine (wrong_any ck A1 n1 c1 p N C A' _ hr1 hp1).mono ?_; rintro e w2 ⟨rfl, hb2⟩; rw [← HV.out])
        go_roundw
        case rel => exact ⟨k + 1, by omega, by go_num, by rw [any_take _ hkl, HA.out, ← HC.out, ← HV.out]; rfl, hb.trans (hb2.mono hb.size)⟩
        case measure => simp [intOf]; omega
      · go_wp2_with (go_at_call 79; refine (wrong_any ck A1 n1 c1 p N C A' _ hr1 hp1).mono ?_; rintro e w2 ⟨rfl, hb2⟩; rw [← HV.out])
        go_ret
        exact ⟨_, rfl, by rw [any_at _ hkl (by rw [← HC.out, ← HV.out])]; simp, hb.trans (hb2.mono hb.size)⟩
    · obtain rfl : n = k := by omega
      go_wp2
      go_ret
      refine ⟨_, rfl, ?_, hb⟩
      have := HA.out
      rw [List.take_of_length_le (by rw [HL.out]; omega)] at this
      rw [this]
      rfl

theorem contains_any (A : Option Addr) (n c : Nat) (cs : List Ck) (p N C : Nat) (A' : Option Addr) (w : World) (hx : Cks w A n cs) (hp : w.cell? ⟨p, 0, none⟩ = some (.slice A' N C)) (hn : n ≤ 9223372036854775807) :
    Calls Try.prog 80 #[.slice A n c, .func (.func 79) #[] #[.pointer (some ⟨p, 0, none⟩)]] w fun e w' => e = .returned (.bool (cs.any (wrongC N))) ∧ Below w.heap.size w w' := by
  go_enter Try.func80, Try.ntmps80
  go_wp2_with fail
  refine (index_any A n c cs p N C A' w hx hp hn).mono ?_
  rintro e w1 ⟨r, rfl, hr, hb⟩
  have HR := Lib.hid hr
  clear hr
  go_wp2
  go_ret
  exact ⟨ret_bool HR.out, hb⟩

theorem may_any (A : Option Addr) (n c : Nat) (cs : List Ck) (w : World) (hx : Cks w A n cs) (hn : n ≤ 9223372036854775807) :
    Calls Try.prog 69 #[.slice A n c] w fun e w' => e = .returned (.bool (mayB cs)) ∧ Below w.heap.size w w' := by
  have hl := hx.len
  by_cases h0 : 0 < n
  · have h0' : (0 : Int) < (n : Int) := by omega
    have HM := Lib.hid (show mayB cs = !cs.any (wrongC n) by unfold mayB; rw [hl, decide_eq_true h0]; rfl)
    clear hl
    go_enter Try.func69, Try.ntmps69
    go_wp2_with (go_at_call 80; refine (contains_any A n c cs w.heap.size n c A _ (hx.alloc _) (by simp) hn).mono ?_; rintro e w1 ⟨rfl, hb⟩)
    go_ret
    exact ⟨ret_bool (by rw [HM.out]), ((Below.refl _ _).alloc (Nat.le_refl _) _).trans (hb.mono (by simp))⟩
  · obtain rfl : n = 0 := by omega
    have HM := Lib.hid (show mayB cs = false by unfold mayB; rw [hl]; rfl)
    clear hl
    go_enter Try.func69, Try.ntmps69
    go_wp2
    go_ret
    exact ⟨by rw [HM.out]; rfl, (Below.refl _ _).alloc (Nat.le_refl _) _⟩

theorem may10R_any (A : Option Addr) (n c : Nat) (cs : List Ck) (w : World) (hx : Cks w A n cs) (hn : n ≤ 9223372036854775807) :
    Calls Try.prog 72 #[.slice A n c] w fun e w' => e = .returned (.bool (mayB cs)) ∧ w = w' := by
  have HL := Lib.hid hx.len
  go_enter Try.func72, Try.ntmps72
  go_wp2
  go_loop [3] (fun i => ∃ k : Nat, k ≤ n ∧ i = .int .i64 k ∧ (cs.take k).any (wrongC n) = false) (fun i => n - (intOf i).toNat)
  case atStart => exact ⟨0, by omega, rfl, rfl⟩
  case round =>
    obtain ⟨k, hk, rfl, ha⟩ := hrel
    have HA := Lib.hid ha
    clear ha
    by_cases hlt : k < n
    · have hkl : k < cs.length := by rw [HL.out]; exact hlt
      have hlt' : (k : Int) < n := by omega
      obtain ⟨g, off, rfl, A1, n1, c1, k0, k1, k2, hr1, hn1, hc1⟩ := hx.form hlt
      obtain ⟨ck, hck⟩ : ∃ ck, ck = cs[k]'hkl := ⟨_, rfl⟩
      rw [← hck] at k0 k1 hr1
      have HC := Lib.hid hck
      clear hck
      have hl1 := hr1.len
      by_cases hb : 65531 < n1
      · have hb' : (65531 : Int) < (n1 : Int) := by omega
        have HV := Lib.hid (show wrongC n ck = true by unfold wrongC; rw [hl1, decide_eq_true hb]; rfl)
        have HM := Lib.hid (show mayB cs = false by unfold mayB; rw [HL.out, any_at (wrongC n) hkl (by rw [← HC.out, HV.out])]; simp)
        clear hl1
        go_wp2
        go_ret
        exact ⟨by rw [HM.out]; rfl, rfl⟩
      · have hb' : ¬ (65531 : Int) < (n1 : Int) := by omega
        have HT := Lib.hid (show wrongC n ck = (aloneK ck && decide (1 < n)) by unfold wrongC; rw [hl1, decide_eq_false hb]; rfl)
        have HAL := Lib.hid (alB_eq ck)
        clear hl1
        obtain ⟨b, hb2⟩ : ∃ b, b = aloneK ck := ⟨_, rfl⟩
        rw [← hb2] at HT HAL
        clear hb2
        cases b
        · go_wp2_with (go_at_call 45; refine (aloneR_any _ _).mono ?_; rintro e w' ⟨rfl, rfl⟩; rw [HAL.out])
          go_round
          case rel => exact ⟨k + 1, by omega, by go_num, by rw [any_take _ hkl, HA.out, ← HC.out, HT.out]; rfl⟩
          case measure => simp [intOf]; omega
        · by_cases h1 : 1 < n
          · have h1' : (1 : Int) < (n : Int) := by omega
            have HM := Lib.hid (show mayB cs = false by unfold mayB; rw [HL.out, any_at (wrongC n) hkl (by rw [← HC.out, HT.out, decide_eq_true h1]; rfl)]; simp)
            go_wp2_with (go_at_call 45; refine (aloneR_any _ _).mono ?_; rintro e w' ⟨rfl, rfl⟩; rw [HAL.out])
            go_ret
            exact ⟨by rw [HM.out]; rfl, rfl⟩
          · have h1' : ¬ (1 : Int) < (n : Int) := by omega
            go_wp2_with (go_at_call 45; refine (aloneR_any _ _).mono ?_; rintro e w' ⟨rfl, rfl⟩; rw [HAL.out])
            go_round
            case rel => exact ⟨k + 1, by omega, by go_num, by rw [any_take _ hkl, HA.out, ← HC.out, HT.out, decide_eq_false h1]; rfl⟩
            case measure => simp [intOf]; omega
    · obtain rfl : n = k := by omega
      have e := HA.out
      rw [List.take_of_length_le (by rw [HL.out]; omega)] at e
      have HM := Lib.hid (show mayB cs = decide (0 < n) by unfold mayB; rw [HL.out, e]; simp)
      clear e
      go_wp2
      go_ret
      exact ⟨ret_bool (by rw [HM.out]), rfl⟩
end Go.Proofs.Ythndlhflkbidiaa
