/- The sum of bytes, in plain numbers: a remainder by a polynomial, bit by bit; what a burst of at most 32 turned bits does to it. No program in sight. -/
namespace Go.Proofs.Ythndlhflkbidiaa

/-- One bit's step. -/
def cstep (x : Nat) : Nat := if x % 2 = 1 then (x / 2) ^^^ 2197175160 else x / 2
/-- So many steps. -/
def it : Nat → Nat → Nat
  | 0, x => x
  | n + 1, x => it n (cstep x)
theorem it_succ (n x : Nat) : it (n + 1) x = cstep (it n x) := by
  induction n generalizing x with
  | zero => rfl
  | succ n ih => rw [it, ih]; rfl
theorem it_add (m n x : Nat) : it (m + n) x = it n (it m x) := by
  induction m generalizing x with
  | zero => simp [it]
  | succ m ih => rw [Nat.succ_add]; exact ih (cstep x)

theorem xor_mod2 (a b : Nat) : (a ^^^ b) % 2 = (a % 2 + b % 2) % 2 := by
  have h := Nat.testBit_xor a b 0
  simp only [Nat.testBit_zero] at h
  have ha := Nat.mod_two_eq_zero_or_one a
  have hb := Nat.mod_two_eq_zero_or_one b
  have hc := Nat.mod_two_eq_zero_or_one (a ^^^ b)
  rcases ha with ha | ha <;> rcases hb with hb | hb <;> rcases hc with hc | hc <;> simp_all
theorem xor_div2 (a b : Nat) : (a ^^^ b) / 2 = (a / 2) ^^^ (b / 2) := by
  apply Nat.eq_of_testBit_eq
  intro i
  simp only [Nat.testBit_div_two, Nat.testBit_xor]
theorem xor_swap (a b c : Nat) : (a ^^^ c) ^^^ (b ^^^ c) = a ^^^ b := by
  rw [Nat.xor_comm b c, Nat.xor_assoc, ← Nat.xor_assoc c c b, Nat.xor_self, Nat.zero_xor]
theorem cstep_xor (a b : Nat) : cstep (a ^^^ b) = cstep a ^^^ cstep b := by
  unfold cstep
  rw [xor_mod2, xor_div2]
  rcases Nat.mod_two_eq_zero_or_one a with ha | ha <;> rcases Nat.mod_two_eq_zero_or_one b with hb | hb
  · simp [ha, hb]
  · simp [ha, hb, Nat.xor_assoc]
  · simp only [ha, hb]
    simp
    rw [Nat.xor_assoc, Nat.xor_assoc, Nat.xor_comm (b / 2)]
  · simp only [ha, hb]
    simp
    exact (xor_swap _ _ _).symm
theorem it_xor (n a b : Nat) : it n (a ^^^ b) = it n a ^^^ it n b := by
  induction n generalizing a b with
  | zero => rfl
  | succ n ih => rw [it, cstep_xor, ih]; rfl
theorem cstep_two (y : Nat) : cstep (2 * y) = y := by
  unfold cstep
  rw [if_neg (by omega)]
  omega
theorem it_shift (n m : Nat) : it n (2 ^ n * m) = m := by
  induction n generalizing m with
  | zero => simp [it]
  | succ n ih => rw [it, Nat.pow_succ, Nat.mul_comm (2 ^ n) 2, Nat.mul_assoc, cstep_two, ih]
theorem cstep_lt {x : Nat} (h : x < 4294967296) : cstep x < 4294967296 := by
  unfold cstep
  split
  · exact Nat.xor_lt_two_pow (n := 32) (by omega) (by omega)
  · omega
theorem cstep_ne {x : Nat} (h : x < 4294967296) (h0 : x ≠ 0) : cstep x ≠ 0 := by
  unfold cstep
  split
  · intro e
    have e2 : x / 2 = 2197175160 := by
      have := congrArg (· ^^^ 2197175160) e
      simpa [Nat.xor_assoc] using this
    omega
  · omega
theorem it_lt {x : Nat} (n : Nat) (h : x < 4294967296) : it n x < 4294967296 := by
  induction n generalizing x with
  | zero => exact h
  | succ n ih => exact ih (cstep_lt h)
theorem it_ne {x : Nat} (n : Nat) (h : x < 4294967296) (h0 : x ≠ 0) : it n x ≠ 0 := by
  induction n generalizing x with
  | zero => exact h0
  | succ n ih => exact ih (cstep_lt h) (cstep_ne h h0)

/-- One byte's steps. -/
def cbyte (x c : Nat) : Nat := it 8 (x ^^^ c)
def crcGo (x : Nat) (l : List UInt8) : Nat := l.foldl (fun x b => cbyte x b.toNat) x
/-- The bytes as one number, the first the lowest. -/
def leN : List UInt8 → Nat
  | [] => 0
  | b :: t => b.toNat + 256 * leN t
theorem byte_xor (c t : Nat) (h : c < 256) : c + 256 * t = c ^^^ (256 * t) := by
  apply Nat.eq_of_testBit_eq
  intro i
  have e1 : c + 256 * t = 2 ^ 8 * t + c := by omega
  have e2 : 256 * t = 2 ^ 8 * t := by omega
  rw [e1, Nat.testBit_two_pow_mul_add _ (by omega), e2, Nat.testBit_xor, Nat.testBit_two_pow_mul]
  by_cases hi : i < 8
  · have h8 : ¬ 8 ≤ i := by omega
    simp [hi, h8]
  · rw [Nat.testBit_lt_two_pow (x := c) (Nat.lt_of_lt_of_le (by omega : c < 2 ^ 8) (Nat.pow_le_pow_right (by omega) (by omega : 8 ≤ i)))]
    simp [hi]; omega
theorem crc_one (s : Nat) (l : List UInt8) : crcGo s l = it (8 * l.length) (s ^^^ leN l) := by
  induction l generalizing s with
  | nil => simp [crcGo, leN, it]
  | cons c t ih =>
    have hc := c.toNat_lt
    have e : crcGo s (c :: t) = crcGo (cbyte s c.toNat) t := rfl
    rw [e, ih, leN, byte_xor _ _ (by omega), List.length_cons, show 8 * (t.length + 1) = 8 + 8 * t.length by omega, it_add, ← Nat.xor_assoc, it_xor 8]
    rw [show 256 * leN t = 2 ^ 8 * leN t by omega, it_shift]
    rfl
theorem leN_lt (l : List UInt8) : leN l < 2 ^ (8 * l.length) := by
  induction l with
  | nil => simp [leN]
  | cons b t ih =>
    have hb := b.toNat_lt
    rw [leN, List.length_cons, show 8 * (t.length + 1) = 8 + 8 * t.length by omega, Nat.pow_add]
    omega
theorem leN_inj {l m : List UInt8} (hl : l.length = m.length) (h : leN l = leN m) : l = m := by
  induction l generalizing m with
  | nil => exact (List.eq_nil_of_length_eq_zero hl.symm).symm
  | cons b t ih =>
    match m, hl with
    | c :: u, hl =>
      have hb := b.toNat_lt
      have hc := c.toNat_lt
      simp only [leN] at h
      have e1 : b.toNat = c.toNat := by omega
      have e2 : leN t = leN u := by omega
      rw [UInt8.toNat_inj.1 e1, ih (by simpa using hl) e2]
theorem leN_append (l m : List UInt8) : leN (l ++ m) = leN l + 2 ^ (8 * l.length) * leN m := by
  induction l with
  | nil => simp [leN]
  | cons b t ih =>
    rw [List.cons_append, leN, ih, leN, List.length_cons, show 8 * (t.length + 1) = 8 + 8 * t.length by omega, Nat.pow_add, Nat.mul_add, Nat.mul_assoc]
    omega
theorem leN_zero (n : Nat) : leN (List.replicate n 0) = 0 := by
  induction n with
  | zero => rfl
  | succ n ih => rw [List.replicate_succ, leN, ih]; rfl
theorem leN_take (l : List UInt8) (k : Nat) (h : k ≤ l.length) : leN (l.take k) = leN l % 2 ^ (8 * k) := by
  have e := leN_append (l.take k) (l.drop k)
  rw [List.take_append_drop, List.length_take, Nat.min_eq_left h] at e
  have hlt := leN_lt (l.take k)
  rw [List.length_take, Nat.min_eq_left h] at hlt
  rw [e, Nat.add_mul_mod_self_left, Nat.mod_eq_of_lt hlt]
theorem leN_drop (l : List UInt8) (k : Nat) (h : k ≤ l.length) : leN (l.drop k) = leN l / 2 ^ (8 * k) := by
  have e := leN_append (l.take k) (l.drop k)
  rw [List.take_append_drop, List.length_take, Nat.min_eq_left h] at e
  have hlt := leN_lt (l.take k)
  rw [List.length_take, Nat.min_eq_left h] at hlt
  rw [e, Nat.add_mul_div_left _ _ (Nat.two_pow_pos _), Nat.div_eq_of_lt hlt, Nat.zero_add]
theorem crc_append (s : Nat) (l m : List UInt8) : crcGo s (l ++ m) = crcGo (crcGo s l) m := by simp [crcGo]
theorem crcGo_lt {s : Nat} (l : List UInt8) (h : s < 4294967296) : crcGo s l < 4294967296 := by
  induction l generalizing s with
  | nil => exact h
  | cons c t ih =>
    have hc := c.toNat_lt
    exact ih (it_lt 8 (Nat.xor_lt_two_pow (n := 32) (by omega) (by omega)))

/-- Each bit of 32 turned. -/
def not32 (x : Nat) : Nat := 4294967295 - x
theorem not32_not {x : Nat} (h : x < 4294967296) : not32 (not32 x) = x := by unfold not32; omega
theorem not32_lt (x : Nat) : not32 x < 4294967296 := by unfold not32; omega
/-- The sum of bytes behind others of a sum. -/
def crcE (s : Nat) (l : List UInt8) : Nat := not32 (crcGo (not32 s) l)
def crcS (l : List UInt8) : Nat := crcE 0 l
theorem crcE_lt (s : Nat) (l : List UInt8) : crcE s l < 4294967296 := not32_lt _
theorem crcE_append (s : Nat) (l m : List UInt8) : crcE (crcE s l) m = crcE s (l ++ m) := by
  unfold crcE
  rw [not32_not (crcGo_lt l (not32_lt s)), crc_append]

/-- Where the bits that differ stand within 32, the sums differ. -/
theorem crc_burst (s : Nat) (l m : List UInt8) (hl : l.length = m.length) (q k : Nat) (h : leN m = leN l ^^^ (2 ^ k * q)) (hq : q ≠ 0) (hq2 : q < 4294967296) : crcGo s l ≠ crcGo s m := by
  rw [crc_one, crc_one, h, ← hl, ← Nat.xor_assoc, it_xor _ (s ^^^ leN l)]
  have hk : k ≤ 8 * l.length := by
    have h1 := leN_lt l
    have h2 := leN_lt m
    rw [← hl] at h2
    have h3 : leN l ^^^ leN m < 2 ^ (8 * l.length) := Nat.xor_lt_two_pow h1 h2
    rw [h, ← Nat.xor_assoc, Nat.xor_self, Nat.zero_xor] at h3
    have h4 : 2 ^ k ≤ 2 ^ k * q := Nat.le_mul_of_pos_right _ (by omega)
    exact Nat.le_of_lt ((Nat.pow_lt_pow_iff_right (by omega)).1 (Nat.lt_of_le_of_lt h4 h3))
  have e : it (8 * l.length) (2 ^ k * q) = it (8 * l.length - k) q := by
    have := it_add k (8 * l.length - k) (2 ^ k * q)
    rw [show k + (8 * l.length - k) = 8 * l.length by omega, it_shift] at this
    exact this
  rw [e]
  intro c
  have c2 := congrArg (it (8 * l.length) (s ^^^ leN l) ^^^ ·) c
  simp only [Nat.xor_self] at c2
  rw [← Nat.xor_assoc, Nat.xor_self, Nat.zero_xor] at c2
  exact it_ne _ hq2 hq c2.symm
theorem crcE_burst (s : Nat) (l m : List UInt8) (hl : l.length = m.length) (q k : Nat) (h : leN m = leN l ^^^ (2 ^ k * q)) (hq : q ≠ 0) (hq2 : q < 4294967296) : crcE s l ≠ crcE s m := by
  intro c
  unfold crcE at c
  have c2 := congrArg not32 c
  rw [not32_not (crcGo_lt _ (not32_lt s)), not32_not (crcGo_lt _ (not32_lt s))] at c2
  exact crc_burst _ l m hl q k h hq hq2 c2
end Go.Proofs.Ythndlhflkbidiaa
