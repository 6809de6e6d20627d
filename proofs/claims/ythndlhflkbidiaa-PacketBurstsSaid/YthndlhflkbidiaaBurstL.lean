/- Bits turned within 32 that stand one behind the other: what is read of them. -/
import Derived.Test.YthndlhflkbidiaaPkMore
import Derived.Test.YthndlhflkbidiaaCkSet
namespace Go.Proofs.Ythndlhflkbidiaa

theorem pow_mul_xor (k a b : Nat) : 2 ^ k * (a ^^^ b) = (2 ^ k * a) ^^^ (2 ^ k * b) := by
  apply Nat.eq_of_testBit_eq
  intro i
  rw [Nat.testBit_xor, Nat.testBit_two_pow_mul, Nat.testBit_two_pow_mul, Nat.testBit_two_pow_mul, Nat.testBit_xor]
  by_cases h : k ≤ i <;> simp [h]
theorem xor_pow_add (q i : Nat) (h : q < 2 ^ i) : q ^^^ 2 ^ i = q + 2 ^ i := by
  apply Nat.eq_of_testBit_eq
  intro j
  have e1 : q + 2 ^ i = 2 ^ i * 1 + q := by omega
  have e2 : 2 ^ i = 2 ^ i * 1 := by omega
  rw [e1, Nat.testBit_two_pow_mul_add _ h, e2, Nat.testBit_xor, Nat.testBit_two_pow_mul]
  by_cases hi : j < i
  · have h8 : ¬ i ≤ j := by omega
    simp [hi, h8]
  · rw [Nat.testBit_lt_two_pow (x := q) (Nat.lt_of_lt_of_le h (Nat.pow_le_pow_right (by omega) (by omega : i ≤ j)))]
    simp [hi]; omega
theorem leN_flip (l : List UInt8) (j r : Nat) (v : UInt8) (hj : j < l.length) (hv : v.toNat = gb l j ^^^ 2 ^ r) : leN (l.set j v) = leN l ^^^ 2 ^ (8 * j + r) := by
  induction l generalizing j with
  | nil => simp at hj
  | cons b t ih =>
    match j with
    | 0 =>
      have hg : gb (b :: t) 0 = b.toNat := rfl
      have h1 := v.toNat_lt
      have h2 := b.toNat_lt
      rw [List.set_cons_zero, leN, leN, byte_xor _ _ (by omega), byte_xor b.toNat _ (by omega), hv, hg, Nat.xor_assoc, Nat.xor_assoc]
      rw [Nat.xor_comm (2 ^ r)]
      simp
    | j + 1 =>
      have hg : gb (b :: t) (j + 1) = gb t j := by unfold gb; simp [List.getD]
      have h2 := b.toNat_lt
      have e := ih j (by simpa using hj) (by rw [← hg]; exact hv)
      rw [List.set_cons_succ, leN, leN, e, byte_xor b.toNat _ (by omega), byte_xor b.toNat _ (by omega)]
      rw [show 256 * (leN t ^^^ 2 ^ (8 * j + r)) = 2 ^ 8 * (leN t ^^^ 2 ^ (8 * j + r)) by omega, pow_mul_xor, ← Nat.pow_add, Nat.xor_assoc]
      rw [show 8 * (j + 1) + r = 8 + (8 * j + r) by omega]

def zd (b : List UInt8) : List UInt8 := b.take 8 ++ nul4 ++ b.drop 12
def md (b : List UInt8) : List UInt8 := (b.drop 8).take 4
theorem nul4_length : nul4.length = 4 := rfl
theorem zd_length {l : List UInt8} (h : 12 ≤ l.length) : (zd l).length = l.length := by simp [zd, nul4_length]; omega
theorem zd_set_low {l : List UInt8} (h : 12 ≤ l.length) {j : Nat} (hj : j < 8) (v : UInt8) : zd (l.set j v) = (zd l).set j v := by
  unfold zd
  rw [List.take_set, List.drop_set_of_lt (by omega), List.set_append_left _ _ (by simp [nul4_length]; omega), List.set_append_left _ _ (by simp; omega)]
theorem zd_set_high {l : List UInt8} (h : 12 ≤ l.length) {j : Nat} (hj : 12 ≤ j) (v : UInt8) : zd (l.set j v) = (zd l).set j v := by
  unfold zd
  have e : (l.take 8 ++ nul4).length = 12 := by simp [nul4_length]; omega
  rw [List.take_set, List.set_eq_of_length_le (by simp; omega), List.drop_set, if_neg (by omega), List.set_append_right _ _ (by omega), e]
theorem zd_set_mid {l : List UInt8} {j : Nat} (h8 : 8 ≤ j) (hj : j < 12) (v : UInt8) : zd (l.set j v) = zd l := by
  unfold zd
  rw [List.take_set, List.set_eq_of_length_le (by simp; omega), List.drop_set_of_lt (by omega)]
theorem zd_gb {l : List UInt8} (h : 12 ≤ l.length) {j : Nat} (hj : j < 8 ∨ 12 ≤ j) : gb (zd l) j = gb l j := by
  have e : (l.take 8 ++ nul4).length = 12 := by simp [nul4_length]; omega
  unfold gb zd
  rcases hj with hj | hj
  · rw [List.getD_eq_getElem?_getD, List.getD_eq_getElem?_getD, List.getElem?_append_left (by omega), List.getElem?_append_left (by simp; omega), List.getElem?_take_of_lt hj]
  · rw [List.getD_eq_getElem?_getD, List.getD_eq_getElem?_getD, List.getElem?_append_right (by omega), e, List.getElem?_drop, show 12 + (j - 12) = j by omega]
theorem md_set_low {l : List UInt8} {j : Nat} (hj : j < 8) (v : UInt8) : md (l.set j v) = md l := by
  unfold md
  rw [List.drop_set_of_lt hj]
theorem md_set_high {l : List UInt8} {j : Nat} (hj : 12 ≤ j) (v : UInt8) : md (l.set j v) = md l := by
  unfold md
  rw [List.drop_set, if_neg (by omega), List.take_set, List.set_eq_of_length_le (by simp; omega)]
theorem zd_md {l m : List UInt8} (hl : 12 ≤ l.length) (hm : 12 ≤ m.length) (h1 : zd l = zd m) (h2 : md l = md m) : l = m := by
  unfold zd at h1
  have e1 : (l.take 8 ++ nul4).length = (m.take 8 ++ nul4).length := by simp; omega
  obtain ⟨a, b⟩ := List.append_inj h1 e1
  obtain ⟨a, _⟩ := List.append_inj a (by simp; omega)
  have s : ∀ x : List UInt8, x = x.take 8 ++ (md x ++ x.drop 12) := fun x => by
    unfold md
    rw [show x.drop 12 = (x.drop 8).drop 4 by rw [List.drop_drop], List.take_append_drop, List.take_append_drop]
  rw [s l, s m, a, b, h2]

/-- The bytes after so many of the 32 bits, and which part was turned. -/
structure Bu (b : List UInt8) (fr i part q : Nat) (l : List UInt8) : Prop where
  len : l.length = b.length
  lt : q < 2 ^ i
  all : leN l = leN b ^^^ (2 ^ fr * q)
  no : part = 0 → q = 0
  yes : part ≠ 0 → q ≠ 0
  far : part = 1 ∨ part = 3 → md l = md b ∧ leN (zd l) = leN (zd b) ^^^ (2 ^ fr * q)
  mid : part = 2 → zd l = zd b
  le : part ≤ 3
def ownOf (k : Nat) : Nat := if 96 ≤ k then 3 else if 64 ≤ k then 2 else 1

theorem Bu.new (b : List UInt8) (fr : Nat) : Bu b fr 0 0 0 b := ⟨rfl, by simp, by simp, fun _ => rfl, by simp, by omega, by omega, by omega⟩
theorem Bu.stay {b : List UInt8} {fr i part q : Nat} {l : List UInt8} (h : Bu b fr i part q l) : Bu b fr (i + 1) part q l :=
  { h with lt := by have := h.lt; rw [Nat.pow_succ]; omega }
theorem Bu.same {b : List UInt8} {fr i part q : Nat} {l : List UInt8} (h : Bu b fr i part q l) (h0 : q = 0) : l = b := by
  have e := h.all
  rw [h0] at e
  exact leN_inj h.len (by simpa using e)
theorem Bu.turn {b : List UInt8} {fr i part q : Nat} {l : List UInt8} (h : Bu b fr i part q l) (h12 : 12 ≤ b.length) (k : Nat) (hk : k = fr + i) (hkb : k < 8 * b.length) (hp : part = 0 ∨ ownOf k = part) (v : UInt8)
    (hv : v.toNat = gb l (k / 8) ^^^ 2 ^ (k % 8)) : Bu b fr (i + 1) (ownOf k) (q + 2 ^ i) (l.set (k / 8) v) := by
  have hlen := h.len
  have e8 : 8 * (k / 8) + k % 8 = k := by omega
  have hx : ∀ X : Nat, (X ^^^ (2 ^ fr * q)) ^^^ 2 ^ k = X ^^^ (2 ^ fr * (q + 2 ^ i)) := fun X => by
    rw [← xor_pow_add q i h.lt, pow_mul_xor, ← Nat.pow_add, ← hk, Nat.xor_assoc]
  have pos : 0 < 2 ^ i := Nat.two_pow_pos i
  have hown : ownOf k = 1 ∧ k < 64 ∨ ownOf k = 2 ∧ 64 ≤ k ∧ k < 96 ∨ ownOf k = 3 ∧ 96 ≤ k := by unfold ownOf; split <;> (try split) <;> omega
  have hfar : part = 0 ∨ part = 1 ∨ part = 3 → md l = md b ∧ leN (zd l) = leN (zd b) ^^^ (2 ^ fr * q) := fun hh => by
    rcases hh with h0 | h0
    · have hq := h.no h0
      have e := h.same hq
      rw [e, hq]
      simp
    · exact h.far h0
  refine ⟨by rw [List.length_set]; exact hlen, by have := h.lt; rw [Nat.pow_succ]; omega, ?_, fun h0 => absurd h0 (by omega), fun _ => by omega, fun hh => ?_, fun hh => ?_, by omega⟩
  · rw [leN_flip l _ _ v (by omega) hv, e8, h.all, hx]
  · obtain ⟨h1, h2⟩ := hfar (by omega)
    rcases hown with ⟨_, hk1⟩ | ⟨ho, _⟩ | ⟨_, hk1⟩
    · refine ⟨by rw [md_set_low (by omega)]; exact h1, ?_⟩
      rw [zd_set_low (by omega) (by omega), leN_flip _ _ _ v (by rw [zd_length (by omega)]; omega) (by rw [zd_gb (by omega) (.inl (by omega))]; exact hv), e8, h2, hx]
    · omega
    · refine ⟨by rw [md_set_high (by omega)]; exact h1, ?_⟩
      rw [zd_set_high (by omega) (by omega), leN_flip _ _ _ v (by rw [zd_length (by omega)]; omega) (by rw [zd_gb (by omega) (.inr (by omega))]; exact hv), e8, h2, hx]
  · rw [zd_set_mid (by omega) (by omega)]
    rcases hp with h0 | h0
    · rw [h.same (h.no h0)]
    · exact h.mid (by omega)

theorem burst_read (t : Nat) (cs : List Ck) (ht : t < 4294967296) (hm : mayB cs = true) (b : List UInt8) (hb : b = pkB t cs) (fr part q : Nat) (l : List UInt8) (h : Bu b fr 32 part q l) :
    (part = 0 → pkErr l = 0) ∧ (part ≠ 0 → pkErr l = 8) := by
  have hgood := (pk_read_written t cs ht hm).1
  have hlen := laid_length t (crcS (laidB t 0 cs)) cs
  rw [← pkB_laid hm, ← hb] at hlen
  rw [← hb] at hgood
  have hsum : be (md b) = pkS b := by
    by_cases e : be (md b) = pkS b
    · exact e
    · rw [pkErr_sum (by omega) e] at hgood; omega
  have hll := h.len
  have e4 : ∀ x : List UInt8, 12 ≤ x.length → (md x).length = 4 := fun x hx => by unfold md; rw [List.length_take, List.length_drop]; omega
  refine ⟨fun h0 => by rw [h.same (h.no h0)]; exact hgood, fun h0 => pkErr_sum (by omega) ?_⟩
  have hq := h.yes h0
  have hq2 : q < 4294967296 := h.lt
  have hle := h.le
  rcases (show (part = 1 ∨ part = 3) ∨ part = 2 by omega) with h1 | h1
  · obtain ⟨e1, e2⟩ := h.far h1
    change be (md l) ≠ crcS (zd l)
    rw [e1, hsum]
    exact crcE_burst 0 (zd b) (zd l) (by rw [zd_length (by omega), zd_length (by omega), hll]) q fr e2 hq hq2
  · have e1 := h.mid h1
    change be (md l) ≠ crcS (zd l)
    rw [e1]
    intro e2
    have e3 : be (md l) = be (md b) := e2.trans hsum.symm
    have e5 : md l = md b := by rw [← nb_be' (md l) 4 (e4 l (by omega)), ← nb_be' (md b) 4 (e4 b (by omega)), e3]
    have e6 := zd_md (by omega) (by omega) e1 e5
    have e7 := h.all
    rw [e6] at e7
    have e8 := congrArg (leN b ^^^ ·) e7
    simp only [← Nat.xor_assoc, Nat.xor_self, Nat.zero_xor] at e8
    have pos := Nat.two_pow_pos fr
    have : 0 < 2 ^ fr * q := Nat.mul_pos pos (by omega)
    omega
end Go.Proofs.Ythndlhflkbidiaa
