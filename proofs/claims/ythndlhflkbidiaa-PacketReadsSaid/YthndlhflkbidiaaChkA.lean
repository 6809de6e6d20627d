/- The document's Read for any bytes; two rows apart. -/
import Derived.Test.YthndlhflkbidiaaChkRR
import Derived.Test.YthndlhflkbidiaaApart
import Derived.Test.YthndlhflkbidiaaCkMore
namespace Go.Proofs.Ythndlhflkbidiaa
open Go.RowKit

theorem rdR_any (A : Option Addr) (N C : Nat) (b : List UInt8) (w : World) (hx : Rd w A N b) (hNC : N ≤ C) (hC : C ≤ 9223372036854775807) (hN : N ≤ 1000000) :
    Calls Try.prog 52 #[.slice A N C] w (RdOut w b) := by
  have hl := hx.len
  by_cases h4 : N < 4
  · exact (rdR_few A N C b w hx hNC hC hN h4).mono fun e w' h => RdOut.bad (ckOk_few (by omega)) h
  by_cases hb : ckLen b < 4 ∨ N < ckLen b
  · exact (rdR_len A N C b w hx hNC hC hN (by omega) hb).mono fun e w' h => RdOut.bad (ckOk_len (by omega)) h
  exact rdR_full A N C b w hx hNC hC hN (by omega) (by omega)

theorem rows2 {w : World} (r1 r2 : Row) (h1 : RowOk w r1) (h2 : RowOk w r2)
    (d12 : ∀ g, 0 < r1.c → 0 < r2.c → r1.A = some ⟨g, 0, none⟩ → r2.A = some ⟨g, 0, none⟩ → False) :
    Rows3 (w.alloc (.cells #[r1.val, r2.val] 22)) w.heap.size 2 (fun k => match k with | 0 => r1 | _ => r2) := by
  have kp : ∀ r : Row, RowOk w r → RowOk (w.alloc (.cells #[r1.val, r2.val] 22)) r := fun r h => h.keep fun g _ _ hg => Below.heap_alloc w _ g hg
  refine ⟨fun k hk => ?_, fun k hk => ?_, fun i k g hi hk hci hck hAi hAk => ?_⟩
  · match k, hk with
    | 0, _ => simp
    | 1, _ => simp
  · match k, hk with
    | 0, _ => exact kp _ h1
    | 1, _ => exact kp _ h2
  · match i, hi, k, hk with
    | 0, _, 0, _ => rfl
    | 1, _, 1, _ => rfl
    | 0, _, 1, _ => exact (d12 g hci hck hAi hAk).elim
    | 1, _, 0, _ => exact (d12 g hck hci hAk hAi).elim

/-- A row that a call made, and an elder one: apart. -/
theorem apart2 {w1 : World} {A1 : Option Addr} {base g n1 n c1 : Nat} {xs1 zs : List UInt8} (h1 : Bo w1 base A1 n1 c1 xs1) (h3 : Blk w1 g zs) (hzs : zs.length = n + 16) (hn : n ≤ 140737488350000) (hg : g < base) :
    Calls Try.prog 34 #[.slice (some ⟨w1.heap.size, 0, none⟩) 2 2] (w1.alloc (.cells #[.slice A1 n1 c1, .slice (some ⟨g, 0, none⟩) n (n + 16)] 22)) fun e w' =>
      e = .returned (.bool true) ∧ Below w1.heap.size w1 w' := by
  have p1 := h1.place
  obtain ⟨r1, rfl, rfl, rfl, k1⟩ := RowOk.of_bo h1
  have k3 : RowOk w1 ⟨some ⟨g, 0, none⟩, n, n + 16, zs⟩ := ⟨hzs, by simp, by simp; omega, fun _ => ⟨g, rfl, h3⟩⟩
  have hr := rows2 r1 ⟨some ⟨g, 0, none⟩, n, n + 16, zs⟩ k1 k3
    (fun x ha hb e1 e2 => by have := p1 x ha e1; injection e2 with e2; injection e2 with e2; omega)
  exact (apart_any w1.heap.size 2 2 _ _ hr (by omega)).mono fun e w' ⟨he, hb⟩ => ⟨he, ((Below.refl _ _).alloc (Nat.le_refl _) _).trans (hb.mono (by simp))⟩
end Go.Proofs.Ythndlhflkbidiaa
