/- slices.Equal at bytes of one length. -/
import Derived.Test.YthndlhflkbidiaaEqB
namespace Go.Proofs.Ythndlhflkbidiaa
open Go.RowKit

theorem take_eq_succ {xs ys : List UInt8} {k : Nat} (hx : k < xs.length) (hy : k < ys.length) (h : xs.take k = ys.take k) (hg : gb xs k = gb ys k) : xs.take (k + 1) = ys.take (k + 1) := by
  rw [take_succ' xs k hx, take_succ' ys k hy, h, hg]
theorem ne_of_gb {xs ys : List UInt8} {k : Nat} (hg : gb xs k ≠ gb ys k) : eqB xs ys = false := by
  unfold eqB
  rw [decide_eq_false_iff_not]
  rintro rfl
  exact hg rfl

theorem equal_any (A B : Option Addr) (n c d : Nat) (xs ys : List UInt8) (w : World) (hx : Rd w A n xs) (hy : Rd w B n ys) (hn : n ≤ 9223372036854775807) :
    Calls Try.prog 77 #[.slice A n c, .slice B n d] w fun e w' => e = .returned (.bool (eqB xs ys)) ∧ ∃ k, w' = w.drewN k := by
  have HX := Lib.hid hx.len
  have HY := Lib.hid hy.len
  go_enter Try.func77, Try.ntmps77
  go_wp2
  go_loopw [13] (fun i wr => ∃ k : Nat, k ≤ n ∧ i = .int .i64 k ∧ xs.take k = ys.take k ∧ ∃ j, wr = w.drewN j) (fun i _ => n - (intOf i).toNat)
  case atStart => exact ⟨0, by omega, rfl, by simp, 0, rfl⟩
  case round =>
    obtain ⟨k, hk, rfl, ht, j, rfl⟩ := hrel
    have HT := Lib.hid ht
    clear ht
    by_cases hlt : k < n
    · obtain ⟨b, off, rfl, hc⟩ := hx.at_ hlt
      obtain ⟨b', off', rfl, hc'⟩ := hy.at_ hlt
      have hlt' : (k : Int) < n := by omega
      by_cases hg : gb xs k = gb ys k
      · have HG := Lib.hid hg
        rw [← hg] at hc'
        clear hg
        go_wp2
        go_quiet (fail)
        go_wp2
        go_roundw
        case rel => exact ⟨k + 1, by omega, by go_num, take_eq_succ (by rw [HX.out]; exact hlt) (by rw [HY.out]; exact hlt) HT.out HG.out, _, rfl⟩
        case measure => simp [intOf]; omega
      · have hne : ((gb xs k : Int) != (gb ys k : Int)) = true := by simp; omega
        have hE := ne_of_gb hg
        have HE := Lib.hid hE
        clear hE hg
        go_wp2
        go_quiet (fail)
        go_wp2
        go_ret
        exact ⟨by rw [HE.out]; rfl, _, World.drewN_drewN _ _ _⟩
    · obtain rfl : n = k := by omega
      go_wp2
      go_ret
      refine ⟨ret_bool ?_, _, rfl⟩
      have := HT.out
      rw [List.take_of_length_le (by rw [HX.out]; omega), List.take_of_length_le (by rw [HY.out]; omega)] at this
      simp [eqB, this]
end Go.Proofs.Ythndlhflkbidiaa
