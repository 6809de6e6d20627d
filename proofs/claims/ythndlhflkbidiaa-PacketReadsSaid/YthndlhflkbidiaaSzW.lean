/- How many bytes a packet has; what is more than a statement goes through. -/
import Derived.Test.YthndlhflkbidiaaPkW
namespace Go.Proofs.Ythndlhflkbidiaa
open Go.RowKit

/-- How many bytes a chunk has, and a packet. -/
def ckN (c : Ck) : Nat := 4 + up c.xs.length
def sizeB (cs : List Ck) : Nat := 12 + (cs.map ckN).sum
theorem sum_take {cs : List Ck} (f : Ck → Nat) {k : Nat} (h : k < cs.length) : ((cs.take (k + 1)).map f).sum = ((cs.take k).map f).sum + f cs[k] := by
  rw [List.take_succ_eq_append_getElem h, List.map_append, List.sum_append]
  rfl
theorem sum_le {cs : List Ck} (f : Ck → Nat) (m : Nat) (h : ∀ c ∈ cs, f c ≤ m) : (cs.map f).sum ≤ cs.length * m := by
  induction cs with
  | nil => simp
  | cons c cs ih =>
    have h1 := h c (by simp)
    have h2 := ih (fun d hd => h d (by simp [hd]))
    rw [List.map_cons, List.sum_cons, List.length_cons, Nat.succ_mul]
    omega
theorem up4 (n : Nat) : up (4 + n) = 4 + up n := by unfold up; omega

theorem cksize_any (k f : Int) (A : Option Addr) (n c : Nat) (w : World) (hn : n ≤ 1000000) :
    Calls Try.prog 71 #[.agg #[.int .u8 k, .int .u8 f, .slice A n c]] w fun e w' => e = .returned (.int .i64 ((4 + up n : Nat) : Int)) ∧ Below w.heap.size w w' := by
  have hu := up_le n
  go_enter Try.func71, Try.ntmps71
  go_wp2_with fail
  refine (round_any n _ (by omega)).mono ?_
  rintro e w1 ⟨rfl, rfl⟩
  go_wp2
  go_ret
  exact ⟨ret_int (by omega), (Below.refl _ _).alloc (Nat.le_refl _) _⟩

theorem size10_any (t : Int) (A : Option Addr) (n c : Nat) (cs : List Ck) (w : World) (hx : Cks w A n cs) (hn : n ≤ 1000) (hs : ∀ c ∈ cs, c.xs.length ≤ 1000000) :
    Calls Try.prog 55 #[.agg #[.int .u32 t, .slice A n c]] w fun e w' => e = .returned (.int .i64 (sizeB cs : Int)) ∧ Below w.heap.size w w' := by
  have HL := Lib.hid hx.len
  have HS := Lib.hid hs
  clear hs
  go_enter Try.func55, Try.ntmps55
  go_wp2
  go_loopw [3, 9] (fun s i wr => ∃ k : Nat, k ≤ n ∧ i = .int .i64 k ∧ s = .int .i64 (12 + ((cs.take k).map ckN).sum : Nat) ∧ ((cs.take k).map ckN).sum ≤ k * 1000007 ∧ Below w.heap.size w wr) (fun _ i _ => n - (intOf i).toNat)
  case atStart => exact ⟨0, by omega, rfl, rfl, by simp, (Below.refl _ _).alloc (Nat.le_refl _) _⟩
  case round =>
    obtain ⟨k, hk, rfl, rfl, hsum, hb⟩ := hrel
    by_cases hlt : k < n
    · have hkl : k < cs.length := by rw [HL.out]; exact hlt
      have hlt' : (k : Int) < n := by omega
      obtain ⟨g, off, rfl, A1, n1, c1, k0, k1, k2, hr1, hn1, hc1⟩ := (hx.below hb).form hlt
      have hl1 := hr1.len
      have hs1 := HS.out (cs[k]'hkl) (List.getElem_mem _)
      have HT := Lib.hid (sum_take ckN hkl)
      have HC := Lib.hid (show ckN (cs[k]'hkl) = 4 + up n1 by unfold ckN; rw [hl1])
      have hu := up_le n1
      obtain ⟨S, hS⟩ : ∃ S, S = ((cs.take k).map ckN).sum := ⟨_, rfl⟩
      rw [← hS] at hsum
      rw [← hS]
      have HSS := Lib.hid hS
      have hsz := hb.size
      clear hS
      rw [hl1] at hs1
      clear hl1
      go_wp2_with (go_at_call 71; refine (cksize_any _ _ A1 n1 c1 _ (by omega)).mono ?_; rintro e w2 ⟨rfl, hb2⟩)
      go_roundw
      case rel =>
        refine ⟨k + 1, by omega, by go_num, ?_, ?_, ?_⟩
        · rw [HT.out, HC.out, ← HSS.out]; go_num
        · rw [HT.out, HC.out, ← HSS.out]; omega
        · exact (hb.alloc hsz _).trans (hb2.mono (by simp; omega))
      case measure => simp [intOf]; omega
    · obtain rfl : n = k := by omega
      have HK := Lib.hid (show 12 + ((cs.take n).map ckN).sum = sizeB cs by rw [List.take_of_length_le (by rw [HL.out]; omega)]; rfl)
      go_wp2
      go_ret
      exact ⟨ret_int (by rw [← HK.out]), hb⟩

theorem size10R_any (t : Int) (A : Option Addr) (n c : Nat) (cs : List Ck) (w : World) (hx : Cks w A n cs) (hn : n ≤ 1000) (hs : ∀ c ∈ cs, c.xs.length ≤ 1000000) :
    Calls Try.prog 57 #[.agg #[.int .u32 t, .slice A n c]] w fun e w' => e = .returned (.int .i64 (sizeB cs : Int)) ∧ Below w.heap.size w w' := by
  have HL := Lib.hid hx.len
  have HS := Lib.hid hs
  clear hs
  go_enter Try.func57, Try.ntmps57
  go_wp2
  go_loop [3, 4] (fun s i => ∃ k : Nat, k ≤ n ∧ i = .int .i64 k ∧ s = .int .i64 (12 + ((cs.take k).map ckN).sum : Nat) ∧ ((cs.take k).map ckN).sum ≤ k * 1000007) (fun _ i => n - (intOf i).toNat)
  case atStart => exact ⟨0, by omega, rfl, rfl, by simp⟩
  case round =>
    obtain ⟨k, hk, rfl, rfl, hsum⟩ := hrel
    obtain ⟨S, hS⟩ : ∃ S, S = ((cs.take k).map ckN).sum := ⟨_, rfl⟩
    rw [← hS] at hsum
    rw [← hS]
    have HSS := Lib.hid hS
    clear hS
    by_cases hlt : k < n
    · have hkl : k < cs.length := by rw [HL.out]; exact hlt
      have hlt' : (k : Int) < n := by omega
      obtain ⟨g, off, rfl, A1, n1, c1, k0, k1, k2, hr1, hn1, hc1⟩ := hx.form hlt
      have hgl := World.block_lt_of_cell? w _ k2
      simp only at hgl
      have hgn : g ≠ w.heap.size := Nat.ne_of_lt hgl
      have k2' := fun o => (World.cell?_alloc_lt w o ⟨g, off + k * 3 + 2, none⟩ hgl).trans k2
      have hl1 := hr1.len
      have hs1 := HS.out (cs[k]'hkl) (List.getElem_mem _)
      have HT := Lib.hid (sum_take ckN hkl)
      have HC := Lib.hid (show ckN (cs[k]'hkl) = 4 + up n1 by unfold ckN; rw [hl1])
      have hu := up_le n1
      rw [hl1] at hs1
      clear hl1
      go_wp2_with (go_at_call 68; refine (roundR_any _ _ (by omega)).mono ?_; rintro e w2 ⟨rfl, rfl⟩)
      go_round
      case rel =>
        refine ⟨k + 1, by omega, by go_num, ?_, ?_⟩
        · rw [HT.out, HC.out, ← HSS.out]; go_num
        · rw [HT.out, HC.out, ← HSS.out]; omega
      case measure => simp [intOf]; omega
    · obtain rfl : n = k := by omega
      have HK := Lib.hid (show 12 + S = sizeB cs by rw [HSS.out, List.take_of_length_le (by rw [HL.out]; omega)]; rfl)
      go_wp2
      go_ret
      exact ⟨ret_int (by rw [← HK.out]; omega), (Below.refl _ _).alloc (Nat.le_refl _) _⟩

/-- What Large reckons. -/
def lgN (c : Ck) : Nat := min c.xs.length 262144
def total (cs : List Ck) : Nat := cs.length + (cs.map fun c => c.xs.length).sum
def LgOut (w : World) (n : Nat) (cs : List Ck) (e : Ending) (w' : World) : Prop :=
  ∃ L : Bool, e = .returned (.bool L) ∧ (L = false → n ≤ 500 ∧ total cs ≤ 131072) ∧ Below w.heap.size w w'
theorem lg_small (cs : List Ck) (h : (cs.map lgN).sum ≤ 131072) : (cs.map lgN).sum = (cs.map fun c => c.xs.length).sum := by
  induction cs with
  | nil => rfl
  | cons c cs ih =>
    simp only [List.map_cons, List.sum_cons] at h ⊢
    rw [ih (by omega)]
    congr 1
    unfold lgN at *
    omega
theorem total_mem {cs : List Ck} (h : total cs ≤ 131072) : ∀ c ∈ cs, c.xs.length ≤ 131072 := by
  intro c hc
  unfold total at h
  have : c.xs.length ≤ (cs.map fun c => c.xs.length).sum := by
    clear h
    induction cs with
    | nil => cases hc
    | cons d ds ih =>
      rcases List.mem_cons.1 hc with rfl | hc
      · simp
      · have := ih hc
        simp only [List.map_cons, List.sum_cons]
        omega
  omega

theorem large10_any (t : Int) (A : Option Addr) (n c : Nat) (cs : List Ck) (w : World) (hx : Cks w A n cs) (hn : n ≤ 9223372036854775807) :
    Calls Try.prog 40 #[.agg #[.int .u32 t, .slice A n c]] w (LgOut w n cs) := by
  have HL := Lib.hid hx.len
  go_enter Try.func40, Try.ntmps40
  go_wp2
  go_loop [3, 4] (fun s i => ∃ k : Nat, k ≤ n ∧ i = .int .i64 k ∧ s = .int .i64 (n + ((cs.take k).map lgN).sum : Nat) ∧ (n + ((cs.take k).map lgN).sum ≤ 393216 ∨ 131072 < n)) (fun _ i => n - (intOf i).toNat)
  case atStart => exact ⟨0, by omega, rfl, rfl, by simp; omega⟩
  case round =>
    obtain ⟨k, hk, rfl, rfl, hsum⟩ := hrel
    obtain ⟨S, hS⟩ : ∃ S, S = ((cs.take k).map lgN).sum := ⟨_, rfl⟩
    rw [← hS] at hsum
    rw [← hS]
    have HSS := Lib.hid hS
    clear hS
    by_cases hlt : k < n
    · have hkl : k < cs.length := by rw [HL.out]; exact hlt
      have hlt' : (k : Int) < n := by omega
      by_cases hgo : n + S ≤ 131072
      · have hgo' : (n : Int) + (S : Int) ≤ 131072 := by omega
        obtain ⟨g, off, rfl, A1, n1, c1, k0, k1, k2, hr1, hn1, hc1⟩ := hx.form hlt
        have hgl := World.block_lt_of_cell? w _ k2
        simp only at hgl
        have hgn : g ≠ w.heap.size := Nat.ne_of_lt hgl
        have k2' := fun o => (World.cell?_alloc_lt w o ⟨g, off + k * 3 + 2, none⟩ hgl).trans k2
        have hl1 := hr1.len
        have HT := Lib.hid (sum_take lgN hkl)
        have HC := Lib.hid (show lgN (cs[k]'hkl) = min n1 262144 by unfold lgN; rw [hl1])
        clear hl1
        go_wp2
        have hmin : (if (262144 : Int) < (n1 : Int) then (262144 : Int) else (n1 : Int)) = ((min n1 262144 : Nat) : Int) := by split <;> omega
        go_round
        case rel =>
          refine ⟨k + 1, by omega, by go_num, ?_, ?_⟩
          · rw [HT.out, HC.out, ← HSS.out, hmin]; go_num
          · rw [HT.out, HC.out, ← HSS.out]; omega
        case measure => simp [intOf]; omega
      · have hgo' : (131072 : Int) < (n : Int) + (S : Int) := by omega
        have hgo2 : ¬ (n : Int) + (S : Int) ≤ 131072 := by omega
        go_wp2
        go_ret
        exact ⟨true, rfl, (fun h => by cases h), (Below.refl _ _).alloc (Nat.le_refl _) _⟩
    · obtain rfl : n = k := by omega
      by_cases hgo : n + S ≤ 131072
      · have hgo' : ¬ (131072 : Int) < (n : Int) + (S : Int) := by omega
        by_cases h5 : 500 < n
        · have h5' : (500 : Int) < (n : Int) := by omega
          go_wp2
          go_ret
          exact ⟨true, rfl, (fun h => by cases h), (Below.refl _ _).alloc (Nat.le_refl _) _⟩
        · have h5' : ¬ (500 : Int) < (n : Int) := by omega
          go_wp2
          go_ret
          refine ⟨false, rfl, fun _ => ⟨by omega, ?_⟩, (Below.refl _ _).alloc (Nat.le_refl _) _⟩
          have e := HSS.out
          rw [List.take_of_length_le (by rw [HL.out]; omega)] at e
          unfold total
          rw [← lg_small cs (by omega), ← e, HL.out]
          exact hgo
      · have hgo' : (131072 : Int) < (n : Int) + (S : Int) := by omega
        go_wp2
        go_ret
        exact ⟨true, rfl, (fun h => by cases h), (Below.refl _ _).alloc (Nat.le_refl _) _⟩
end Go.Proofs.Ythndlhflkbidiaa
