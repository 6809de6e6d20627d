/- CopyBytes, Roomy, slices.Clone at bytes: the same bytes in new memory. -/
import Derived.Test.YthndlhflkbidiaaEqB
namespace Go.Proofs.Ythndlhflkbidiaa
open Go.RowKit

theorem info5 : (Try.prog.info? 5).map (fun i => (i.zero, i.size, i.bytes)) = some (some (.int .u8 0), 1, 1) := by kernel_rfl
theorem R22 : ByteRow Try.prog 22 := ⟨Try.underlying22, info_parts info5⟩

/-- What the call hands back: bytes in memory of its own; nothing that was there has turned. -/
def Fresh (w : World) (n : Nat) (xs : List UInt8) (e : Ending) (w' : World) : Prop :=
  ∃ A c, e = .returned (.slice A n c) ∧ Bo w' w.heap.size A n c xs ∧ Below w.heap.size w w'

theorem eq_any (A B : Option Addr) (n m c d : Nat) (xs ys : List UInt8) (w : World) (hx : Rd w A n xs) (hy : Rd w B m ys) (hn : n ≤ 9223372036854775807) :
    Calls Try.prog 32 #[.slice A n c, .slice B m d] w fun e w' => e = .returned (.bool (eqB xs ys)) ∧ ∃ k, w' = w.drewN k := by
  by_cases h : n = m
  · subst h
    exact eq_go A B n c d xs ys w hx hy hn
  · refine (eq_len A B n m c d w (by simp; omega)).mono fun e w' ⟨he, hw⟩ => ?_
    have : eqB xs ys = false := by
      unfold eqB
      rw [decide_eq_false_iff_not]
      rintro rfl
      exact h (hx.1.symm.trans hy.1)
    exact ⟨by rw [he, this], 0, hw.symm⟩

def CpRel (w : World) (xs : List UInt8) (spare : Nat) (z : List UInt8) (i : Value) (wr : World) : Prop :=
  ∃ k : Nat, k ≤ xs.length ∧ i = .int .i64 k ∧ Blk wr w.heap.size (xs.take k ++ List.replicate (xs.length - k) 0 ++ z) ∧ z.length = spare ∧ Below w.heap.size w wr

theorem cp_step {xs z : List UInt8} {k : Nat} (hk : k < xs.length) :
    (xs.take k ++ List.replicate (xs.length - k) 0 ++ z).set k (UInt8.ofNat (gb xs k)) = xs.take (k + 1) ++ List.replicate (xs.length - (k + 1)) 0 ++ z := by
  rw [take_succ' xs k hk]
  have e : xs.length - k = (xs.length - (k + 1)) + 1 := by omega
  rw [e, List.replicate_succ, List.append_assoc, List.set_append_right _ _ (by rw [List.length_take]; omega), List.length_take, Nat.min_eq_left (by omega)]
  simp

theorem copy_any (A : Option Addr) (n c : Nat) (xs : List UInt8) (w : World) (hx : Rd w A n xs) (hn : n ≤ 140737488351232) :
    Calls Try.prog 62 #[.slice A n c] w (Fresh w n xs) := by
  by_cases h0 : n = 0
  · subst h0
    obtain rfl : xs = [] := List.eq_nil_of_length_eq_zero hx.1
    go_enter Try.func62, Try.ntmps62
    go_wp2
    go_ret
    exact ⟨none, 0, rfl, Bo.nil _ _ _, Below.refl _ _⟩
  · have hb0 : ((n : Int) == 0) = false := by simp; omega
    have hmk := fun W => run_make_bytes R22 (n : Int) n rfl (by omega) W
    obtain ⟨b, off, rfl, hc⟩ := hx.form (by omega)
    have hbl : b < w.heap.size := World.block_lt_of_cell? w _ (hc 0 (by omega))
    have HL := Lib.hid hx.len
    go_enter Try.func62, Try.ntmps62
    go_wp2
    clear hmk hb0
    go_loopw [4] (fun i wr => CpRel w xs 0 [] i wr) (fun i _ => n - (intOf i).toNat)
    case atStart => exact ⟨0, by omega, rfl, by simpa [HL.out] using Blk.new w (List.replicate n 0), rfl, (Below.refl _ _).alloc (Nat.le_refl _) _⟩
    case round =>
      obtain ⟨k, hk, rfl, hB, _, hb⟩ := hrel
      have HL2 := HL.out
      rw [HL2] at hk
      by_cases hlt : k < n
      · have hlt' : (k : Int) < n := by omega
        have h1 := (hb.cell (p := ⟨b, off + k, none⟩) hbl).trans (hc k hlt)
        have h2 := hB.cell (k := k) (by simp [HL2]; omega)
        have h3 := hB.frozen k
        have HB := Lib.hid hB
        clear hB HL2
        go_wp2
        go_roundw
        case rel =>
          have hB := HB.out.set_ k (gb xs k) (gb_lt xs k)
          rw [cp_step (by rw [HL.out]; exact hlt)] at hB
          exact ⟨k + 1, by rw [HL.out]; omega, by go_num, hB, rfl, hb.setCell (p := ⟨w.heap.size, k, none⟩) (Nat.le_refl _) _⟩
        case measure => simp [intOf]; omega
      · obtain rfl : k = n := by omega
        have HB := Lib.hid hB
        clear hB HL2
        go_wp2
        go_ret
        refine ⟨_, _, rfl, Blk.bo (xs := xs) (ys := []) ?_ (Nat.le_refl _) HL.out (by simp) (by unfold maxLen; omega), hb⟩
        have hB := HB.out
        rw [HL.out, List.take_of_length_le (by rw [HL.out]; omega), Nat.sub_self] at hB
        simpa using hB

def marks : List UInt8 := List.replicate 16 90

def MkRel (w : World) (n : Nat) (i : Value) (wr : World) : Prop :=
  ∃ k : Nat, k ≤ 16 ∧ i = .int .i64 ((n + k : Nat) : Int) ∧ Blk wr w.heap.size (List.replicate n 0 ++ List.replicate k 90 ++ List.replicate (16 - k) 0) ∧ Below w.heap.size w wr

/-- A row of its own, with sixteen marks in the room behind it. -/
theorem mk_step {n k : Nat} (hk : k < 16) :
    (List.replicate n (0 : UInt8) ++ List.replicate k 90 ++ List.replicate (16 - k) 0).set (n + k) (UInt8.ofNat 90) = List.replicate n 0 ++ List.replicate (k + 1) 90 ++ List.replicate (16 - (k + 1)) 0 := by
  have e : 16 - k = (16 - (k + 1)) + 1 := by omega
  rw [e, List.replicate_succ, List.set_append_right _ _ (by simp)]
  simp [List.replicate_succ']

theorem roomy_any (A : Option Addr) (n c : Nat) (xs : List UInt8) (w : World) (hx : Rd w A n xs) (hn : n ≤ 140737488351232) :
    Calls Try.prog 27 #[.slice A n c] w fun e w' => e = .returned (.slice (some ⟨w.heap.size, 0, none⟩) n (n + 16)) ∧ Blk w' w.heap.size (xs ++ marks) ∧ Below w.heap.size w w' := by
  have hmk := fun W => run_make_bytes R22 ((n : Int) + 16) (n + 16) (by omega) (by omega) W
  have HL := Lib.hid hx.len
  go_enter Try.func27, Try.ntmps27
  go_wp2
  clear hmk
  go_loopw [4] (fun i wr => MkRel w n i wr) (fun i _ => n + 16 - (intOf i).toNat)
  case atStart =>
    refine ⟨0, by omega, rfl, ?_, (Below.refl _ _).alloc (Nat.le_refl _) _⟩
    have e : List.replicate n (0 : UInt8) ++ List.replicate 0 90 ++ List.replicate (16 - 0) 0 = List.replicate (n + 16) 0 := by
      rw [← List.replicate_append_replicate (n := n)]; simp
    rw [e]
    exact Blk.new w (List.replicate (n + 16) 0)
  case round =>
    obtain ⟨k, hk, rfl, hB, hb⟩ := hrel
    by_cases hlt : k < 16
    · have hlt' : (n : Int) + (k : Int) < (n : Int) + 16 := by omega
      have h2 := hB.cell (k := n + k) (by simp; omega)
      have h3 := hB.frozen (n + k)
      have HB := Lib.hid hB
      clear hB
      go_wp2
      go_roundw
      case rel =>
        have hB := HB.out.set_ (n + k) 90 (by omega)
        rw [mk_step hlt] at hB
        exact ⟨k + 1, by omega, by go_num, hB, hb.setCell (p := ⟨w.heap.size, n + k, none⟩) (Nat.le_refl _) _⟩
      case measure => simp [intOf]; omega
    · obtain rfl : k = 16 := by omega
      have HB := Lib.hid hB
      clear hB hlt
      go_wp2
      go_loopw [5] (fun i wr => CpRel w xs 16 marks i wr) (fun i _ => n - (intOf i).toNat)
      case atStart =>
        refine ⟨0, by omega, rfl, ?_, by simp [marks], hb⟩
        have := HB.out
        rw [HL.out]
        simpa [marks] using this
      case round =>
        clear hb HB hk
        obtain ⟨k, hk, rfl, hB, _, hb⟩ := hrel
        have HL2 := HL.out
        rw [HL2] at hk
        by_cases hlt : k < n
        · obtain ⟨b, off, rfl, hc⟩ := hx.form (by omega)
          have hbl : b < w.heap.size := World.block_lt_of_cell? w _ (hc 0 (by omega))
          have hlt' : (k : Int) < n := by omega
          have h1 := (hb.cell (p := ⟨b, off + k, none⟩) hbl).trans (hc k hlt)
          have h2 := hB.cell (k := k) (by simp [HL2]; omega)
          have h3 := hB.frozen k
          have HB := Lib.hid hB
          clear hB HL2 hc
          go_wp2
          go_roundw
          case rel =>
            have hB := HB.out.set_ k (gb xs k) (gb_lt xs k)
            rw [cp_step (by rw [HL.out]; exact hlt)] at hB
            exact ⟨k + 1, by rw [HL.out]; omega, by go_num, hB, by simp [marks], hb.setCell (p := ⟨w.heap.size, k, none⟩) (Nat.le_refl _) _⟩
          case measure => simp [intOf]; omega
        · obtain rfl : k = n := by omega
          have HB := Lib.hid hB
          clear hB HL2
          go_wp2
          go_ret
          refine ⟨by simp, ?_, hb⟩
          have hB := HB.out
          rw [HL.out, List.take_of_length_le (by rw [HL.out]; omega), Nat.sub_self] at hB
          simpa using hB

theorem clone_any (A : Option Addr) (n c : Nat) (xs : List UInt8) (w : World) (hx : Rd w A n xs) (hn : n ≤ 140737488351232) :
    Calls Try.prog 66 #[.slice A n c] w (Fresh w n xs) := by
  have hnil := Lib.run_eql_slice_nil (P := Try.prog) w 22 5 A n c 0 0 Try.underlying22
  cases A with
  | none =>
    have hn0 : n = 0 := by
      rcases Nat.eq_zero_or_pos n with h | h
      · exact h
      · obtain ⟨b, off, e, _⟩ := hx.2 h
        cases e
    subst hn0
    obtain rfl : xs = [] := List.eq_nil_of_length_eq_zero hx.1
    go_enter Try.func66, Try.ntmps66
    go_wp2
    go_ret
    exact ⟨none, 0, rfl, Bo.nil _ _ _, Below.refl _ _⟩
  | some a =>
    clear hnil
    go_enter Try.func66, Try.ntmps66
    have hnil := Lib.run_eql_slice_nil (P := Try.prog) w 22 5 (some a) n c 0 0 Try.underlying22
    go_wp2_with (at_builtin; refine wpList_bytes R22 _ rfl (.tmp 5) (.tmp 6) rfl w.heap.size rfl rfl (Bo.nil _ _ _) (hx.alloc _) (by omega) (by simp) ?_; intro A2 c2 w1 hB hg hor)
    go_ret
    have hb := below_grown (base := w.heap.size) (Bo.nil (w.alloc (.cells #[] 5)) w.heap.size (some ⟨w.heap.size, 0, none⟩)) hg (by simp)
    refine ⟨A2, c2, ?_, by simpa using hB, ((Below.refl _ _).alloc (Nat.le_refl _) _).trans hb⟩
    simp
end Go.Proofs.Ythndlhflkbidiaa
