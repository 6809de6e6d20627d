/- More of the plain law of packets: lengths; two rows that two calls made. -/
import Derived.Test.YthndlhflkbidiaaSzW
import Derived.Test.YthndlhflkbidiaaChkA
namespace Go.Proofs.Ythndlhflkbidiaa
open Go Go.RowKit

theorem flat_length (cs : List Ck) (h : ∀ c ∈ cs, small c = true) : (flat cs).length = (cs.map ckN).sum := by
  induction cs with
  | nil => rfl
  | cons c cs ih =>
    rw [flat_cons, List.length_append, ih (fun d hd => h d (by simp [hd])), List.map_cons, List.sum_cons, (bytes_four (h c (by simp))).2]
    unfold ckN
    rw [up4]
theorem pkB_length {t : Nat} {cs : List Ck} (h : mayB cs = true) : (pkB t cs).length = sizeB cs := by
  rw [pkB_laid h, laid_length, flat_length cs (mayB_small h)]
  rfl
theorem sum_mod4 (cs : List Ck) : (cs.map ckN).sum % 4 = 0 := by
  induction cs with
  | nil => rfl
  | cons c cs ih =>
    have := up_le c.xs.length
    rw [List.map_cons, List.sum_cons]
    unfold ckN at *
    omega
theorem sizeB_mod (cs : List Ck) : sizeB cs % 4 = 0 := by
  have := sum_mod4 cs
  unfold sizeB
  omega
theorem sizeB_le (cs : List Ck) : sizeB cs ≤ 12 + total cs + 6 * cs.length := by
  have key : (cs.map ckN).sum ≤ (cs.map fun c => c.xs.length).sum + 7 * cs.length := by
    induction cs with
    | nil => simp
    | cons c cs ih =>
      have := up_le c.xs.length
      simp only [List.map_cons, List.sum_cons, List.length_cons]
      unfold ckN at *
      omega
  unfold sizeB total
  omega
theorem pkB_le (t : Nat) (cs : List Ck) : (pkB t cs).length ≤ sizeB cs := by
  by_cases h : mayB cs = true
  · rw [pkB_length h]; omega
  · rw [pkB_nil (by simpa using h)]; simp
theorem flat_four (cs : List Ck) (h : ∀ c ∈ cs, small c = true) : 4 * cs.length ≤ (flat cs).length := by
  induction cs with
  | nil => simp
  | cons c cs ih =>
    have h4 := (bytes_four (h c (by simp))).1
    have := ih (fun d hd => h d (by simp [hd]))
    rw [flat_cons, List.length_append, List.length_cons]
    omega
theorem pkCks_few (b : List UInt8) : 4 * (pkCks b).length ≤ b.length := by
  by_cases h : pkErr b = 0
  · obtain ⟨h1, h2, _, h4⟩ := pk_good h
    have := flat_four (pkCks b) (mayB_small h2)
    have e := congrArg List.length h4
    rw [laid_length] at e
    omega
  · rw [(pkCks_bad h).1]
    simp
theorem pkTag_lt (b : List UInt8) : pkTag b < 4294967296 := by
  by_cases h : pkErr b = 0
  · exact (pk_good h).2.2.1
  · rw [(pkCks_bad h).2]; omega
/-- Two rows of two calls: apart. -/
theorem apartB {w2 : World} {A1 A2 : Option Addr} {n1 n2 c1 c2 b1 b2 : Nat} {xs1 xs2 : List UInt8} (h1 : Bo w2 b1 A1 n1 c1 xs1) (h2 : Bo w2 b2 A2 n2 c2 xs2) (hlt : ∀ g, 0 < c1 → A1 = some ⟨g, 0, none⟩ → g < b2) :
    Calls Try.prog 34 #[.slice (some ⟨w2.heap.size, 0, none⟩) 2 2] (w2.alloc (.cells #[.slice A1 n1 c1, .slice A2 n2 c2] 22)) fun e w' => e = .returned (.bool true) ∧ Below w2.heap.size w2 w' := by
  have p2 := h2.place
  obtain ⟨r1, rfl, rfl, rfl, k1⟩ := RowOk.of_bo h1
  obtain ⟨r2, rfl, rfl, rfl, k2⟩ := RowOk.of_bo h2
  have hr := rows2 r1 r2 k1 k2 (fun x ha hb e1 e2 => by have := hlt x ha e1; have := p2 x hb e2; omega)
  exact (apart_any w2.heap.size 2 2 _ _ hr (by omega)).mono fun e w' ⟨he, hb⟩ => ⟨he, ((Below.refl _ _).alloc (Nat.le_refl _) _).trans (hb.mono (by simp))⟩
end Go.Proofs.Ythndlhflkbidiaa
