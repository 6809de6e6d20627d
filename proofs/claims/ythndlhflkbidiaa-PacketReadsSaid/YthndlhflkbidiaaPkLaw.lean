/- The plain law of a packet's bytes: chunks one behind the other, the sum, what is read of what is written. -/
import Derived.Test.YthndlhflkbidiaaCkBack
import Derived.Test.YthndlhflkbidiaaCrc
import Derived.Test.YthndlhflkbidiaaNumsP
namespace Go.Proofs.Ythndlhflkbidiaa
open Go.RowKit

/-- A chunk. -/
structure Ck where
  k : UInt8
  f : UInt8
  xs : List UInt8
theorem Ck.ext' {a b : Ck} (h1 : a.k = b.k) (h2 : a.f = b.f) (h3 : a.xs = b.xs) : a = b := by cases a; cases b; simp_all
/-- A chunk's bytes. -/
def Ck.bytes (c : Ck) : List UInt8 := wrB c.k.toNat c.f.toNat c.xs
def small (c : Ck) : Bool := decide (c.xs.length ≤ 65531)
/-- The chunk with which bytes begin. -/
def ckOf (b : List UInt8) : Ck := ⟨b.getD 0 0, b.getD 1 0, (b.drop 4).take (ckLen b - 4)⟩
def flat (cs : List Ck) : List UInt8 := cs.flatMap Ck.bytes
theorem flat_nil : flat [] = [] := rfl
theorem flat_cons (c : Ck) (cs : List Ck) : flat (c :: cs) = c.bytes ++ flat cs := by simp [flat]
theorem flat_append (cs ds : List Ck) : flat (cs ++ ds) = flat cs ++ flat ds := by simp [flat]
theorem flat_snoc (cs : List Ck) (c : Ck) : flat (cs ++ [c]) = flat cs ++ c.bytes := by simp [flat]

theorem Ck.bytes_small {c : Ck} (h : small c = true) : c.bytes = ckB c.k.toNat c.f.toNat c.xs := wrB_small _ _ _ (by simpa [small] using h)
theorem Ck.bytes_length (c : Ck) : c.bytes.length = wrN c.xs.length := wrB_length _ _ _
theorem bytes_four {c : Ck} (h : small c = true) : 4 ≤ c.bytes.length ∧ c.bytes.length = up (4 + c.xs.length) := by
  have hs : c.xs.length ≤ 65531 := by simpa [small] using h
  have hu := up_le (4 + c.xs.length)
  rw [Ck.bytes_length, wrN_small _ hs]
  omega
/-- What is written is read. -/
theorem read_written {c : Ck} (h : small c = true) (more : List UInt8) : ckOk (c.bytes ++ more) = true ∧ ckOf (c.bytes ++ more) = c ∧ up (ckLen (c.bytes ++ more)) = c.bytes.length := by
  have hs : c.xs.length ≤ 65531 := by simpa [small] using h
  have h4 := bytes_four h
  have e0 := ckB_gb0 c.k.toNat c.f.toNat c.xs more c.k.toNat_lt
  have e1 := ckB_gb1 c.k.toNat c.f.toNat c.xs more c.f.toNat_lt
  have e2 := ckB_app_len c.k.toNat c.f.toNat c.xs more hs
  have e3 := ckB_body c.k.toNat c.f.toNat c.xs more
  rw [h4.2, Ck.bytes_small h]
  refine ⟨ckB_app_ok _ _ _ _ hs, ?_, by rw [e2]⟩
  refine Ck.ext' (UInt8.toNat_inj.1 e0) (UInt8.toNat_inj.1 e1) ?_
  show List.take (ckLen _ - 4) _ = _
  rw [e2]
  exact e3
/-- What is read is written. -/
theorem written_read {b : List UInt8} (h : ckOk b = true) : small (ckOf b) = true ∧ (ckOf b).bytes = b.take (up (ckLen b)) ∧ b = (ckOf b).bytes ++ b.drop (up (ckLen b)) ∧ 4 ≤ up (ckLen b) ∧ up (ckLen b) ≤ b.length := by
  obtain ⟨e, h4, hl⟩ := ck_written b h
  have hL := ckLen_lt b
  have hu := up_le (ckLen b)
  have e' : (ckOf b).bytes = b.take (up (ckLen b)) := e
  refine ⟨by simp [small, ckOf]; omega, e', ?_, by omega, hl⟩
  rw [e', List.take_append_drop]

/-- All the chunks of bytes, or none if one of them is wrong. -/
def rdF : Nat → List UInt8 → Option (List Ck)
  | 0, _ => none
  | n + 1, b => if b.length = 0 then some [] else if ckOk b = true then (rdF n (b.drop (up (ckLen b)))).map (ckOf b :: ·) else none
theorem rdF_enough : ∀ (n m : Nat) (b : List UInt8), b.length < n → b.length < m → rdF n b = rdF m b
  | 0, _, _, h, _ => absurd h (by omega)
  | _ + 1, 0, _, _, h => absurd h (by omega)
  | n + 1, m + 1, b, h1, h2 => by
    unfold rdF
    by_cases h0 : b.length = 0
    · rw [if_pos h0, if_pos h0]
    · rw [if_neg h0, if_neg h0]
      by_cases hk : ckOk b = true
      · rw [if_pos hk, if_pos hk]
        have h4 := (written_read hk).2.2.2.1
        rw [rdF_enough n m _ (by simp; omega) (by simp; omega)]
      · rw [if_neg hk, if_neg hk]
def rdCks (b : List UInt8) : Option (List Ck) := rdF (b.length + 1) b
theorem rdCks_nil : rdCks [] = some [] := rfl
theorem rdCks_ok {b : List UInt8} (h : ckOk b = true) : rdCks b = (rdCks (b.drop (up (ckLen b)))).map (ckOf b :: ·) := by
  have h4 := (written_read h).2.2.2
  have e : rdCks b = if b.length = 0 then some [] else if ckOk b = true then (rdF b.length (b.drop (up (ckLen b)))).map (ckOf b :: ·) else none := rfl
  rw [e, if_neg (by omega), if_pos h]
  unfold rdCks
  rw [rdF_enough b.length _ _ (by simp; omega) (Nat.lt_succ_self _)]
theorem rdCks_bad {b : List UInt8} (h0 : b.length ≠ 0) (h : ckOk b = false) : rdCks b = none := by
  have e : rdCks b = if b.length = 0 then some [] else if ckOk b = true then (rdF b.length (b.drop (up (ckLen b)))).map (ckOf b :: ·) else none := rfl
  rw [e, if_neg h0, if_neg (by simp [h])]
theorem rdCks_flat (cs : List Ck) (h : ∀ c ∈ cs, small c = true) : rdCks (flat cs) = some cs := by
  induction cs with
  | nil => rfl
  | cons c cs ih =>
    have hc := h c (by simp)
    obtain ⟨e1, e2, e3⟩ := read_written hc (flat cs)
    rw [flat_cons, rdCks_ok e1, e2, e3, List.drop_left, ih (fun d hd => h d (by simp [hd]))]
    rfl
theorem rdCks_some : ∀ (n : Nat) (b : List UInt8) (cs : List Ck), b.length < n → rdCks b = some cs → b = flat cs ∧ ∀ c ∈ cs, small c = true
  | 0, _, _, h, _ => absurd h (by omega)
  | n + 1, b, cs, hn, h => by
    by_cases h0 : b.length = 0
    · obtain rfl := List.eq_nil_of_length_eq_zero h0
      rw [rdCks_nil] at h
      obtain rfl : [] = cs := by simpa using h
      exact ⟨rfl, by simp⟩
    · by_cases hk : ckOk b = true
      · rw [rdCks_ok hk] at h
        obtain ⟨hs, he, hb, h4, hl⟩ := written_read hk
        match hr : rdCks (b.drop (up (ckLen b))) with
        | none => rw [hr] at h; cases h
        | some ds =>
          rw [hr] at h
          obtain rfl : ckOf b :: ds = cs := by simpa using h
          obtain ⟨e1, e2⟩ := rdCks_some n _ ds (by simp; omega) hr
          refine ⟨?_, fun c hc => ?_⟩
          · rw [flat_cons, ← e1]; exact hb
          · rcases List.mem_cons.1 hc with rfl | hc
            · exact hs
            · exact e2 c hc
      · rw [rdCks_bad h0 (by simpa using hk)] at h
        cases h

def aloneK (c : Ck) : Bool := c.k == 1 || c.k == 2 || c.k == 14
/-- May these chunks stand in one packet? -/
def wrongC (n : Nat) (c : Ck) : Bool := decide (65531 < c.xs.length) || (aloneK c && decide (1 < n))
def mayB (cs : List Ck) : Bool := decide (0 < cs.length) && !cs.any (wrongC cs.length)
theorem mayB_small {cs : List Ck} (h : mayB cs = true) : ∀ c ∈ cs, small c = true := by
  intro c hc
  unfold mayB at h
  simp only [Bool.and_eq_true, Bool.not_eq_true', List.any_eq_false, decide_eq_true_eq] at h
  have := h.2 c hc
  simp [wrongC] at this
  simp [small]
  exact this.1

def nul4 : List UInt8 := [0, 0, 0, 0]
/-- The sum of bytes, but for the four at which it stands. -/
def pkS (b : List UInt8) : Nat := crcS (b.take 8 ++ nul4 ++ b.drop 12)
theorem pkS_lt (b : List UInt8) : pkS b < 4294967296 := crcE_lt _ _
def port : Nat := 5000
/-- The bytes of a packet's head: the two ports, the tag, a sum. -/
def headB (t s : Nat) : List UInt8 := nb port 2 ++ nb port 2 ++ nb t 4 ++ nb s 4
theorem headB_length (t s : Nat) : (headB t s).length = 12 := by simp [headB, nb_length]
def laidB (t s : Nat) (cs : List Ck) : List UInt8 := headB t s ++ flat cs
def pkB (t : Nat) (cs : List Ck) : List UInt8 := if mayB cs = true then laidB t (crcS (laidB t 0 cs)) cs else []
theorem nb_zero4 : nb 0 4 = nul4 := by decide
theorem laid_take8 (t s : Nat) (cs : List Ck) : (laidB t s cs).take 8 = nb port 2 ++ nb port 2 ++ nb t 4 := by
  unfold laidB headB
  rw [List.append_assoc, List.take_append_of_le_length (by simp [nb_length]), List.take_of_length_le (by simp [nb_length])]
theorem laid_drop12 (t s : Nat) (cs : List Ck) : (laidB t s cs).drop 12 = flat cs := by
  unfold laidB
  rw [← headB_length t s, List.drop_left]
theorem laid_mid (t s : Nat) (cs : List Ck) : ((laidB t s cs).drop 8).take 4 = nb s 4 := by
  unfold laidB headB
  rw [List.append_assoc, List.drop_append]
  have hl : (nb port 2 ++ nb port 2 ++ nb t 4).length = 8 := by simp [nb_length]
  rw [hl, List.drop_of_length_le (by omega)]
  simp only [Nat.sub_self, List.drop_zero, List.nil_append]
  rw [List.take_append_of_le_length (by simp [nb_length]), List.take_of_length_le (by simp [nb_length])]
theorem laid_pkS (t s : Nat) (cs : List Ck) : pkS (laidB t s cs) = crcS (laidB t 0 cs) := by
  unfold pkS
  rw [laid_take8, laid_drop12, ← nb_zero4]
  unfold laidB headB
  rfl
theorem laid_length (t s : Nat) (cs : List Ck) : (laidB t s cs).length = 12 + (flat cs).length := by
  unfold laidB
  rw [List.length_append, headB_length]

/-- Why there is no packet; 0 if there is one. -/
def pkErr (b : List UInt8) : Nat :=
  if b.length < 12 then 7 else if be ((b.drop 8).take 4) ≠ pkS b then 8 else
  match rdCks (b.drop 12) with
  | none => 7
  | some cs => if be (b.take 2) = port ∧ be ((b.drop 2).take 2) = port ∧ mayB cs = true then 0 else 7
def pkCks (b : List UInt8) : List Ck := if pkErr b = 0 then (rdCks (b.drop 12)).getD [] else []
def pkTag (b : List UInt8) : Nat := if pkErr b = 0 then be ((b.drop 4).take 4) else 0

theorem pkErr_short {b : List UInt8} (h : b.length < 12) : pkErr b = 7 := by unfold pkErr; rw [if_pos h]
theorem pkErr_sum {b : List UInt8} (h : ¬ b.length < 12) (h2 : be ((b.drop 8).take 4) ≠ pkS b) : pkErr b = 8 := by unfold pkErr; rw [if_neg h, if_pos h2]
theorem pkErr_none {b : List UInt8} (h : ¬ b.length < 12) (h2 : be ((b.drop 8).take 4) = pkS b) (h3 : rdCks (b.drop 12) = none) : pkErr b = 7 := by
  unfold pkErr
  rw [if_neg h, if_neg (by simpa using h2), h3]
theorem pkErr_some {b : List UInt8} {cs : List Ck} (h : ¬ b.length < 12) (h2 : be ((b.drop 8).take 4) = pkS b) (h3 : rdCks (b.drop 12) = some cs) :
    pkErr b = if be (b.take 2) = port ∧ be ((b.drop 2).take 2) = port ∧ mayB cs = true then 0 else 7 := by
  unfold pkErr
  rw [if_neg h, if_neg (by simpa using h2), h3]
theorem pkCks_bad {b : List UInt8} (h : pkErr b ≠ 0) : pkCks b = [] ∧ pkTag b = 0 := by
  unfold pkCks pkTag
  rw [if_neg h, if_neg h]
  exact ⟨rfl, rfl⟩
theorem pkCks_good {b : List UInt8} {cs : List Ck} (h : pkErr b = 0) (h3 : rdCks (b.drop 12) = some cs) : pkCks b = cs ∧ pkTag b = be ((b.drop 4).take 4) := by
  unfold pkCks pkTag
  rw [if_pos h, if_pos h, h3]
  exact ⟨rfl, rfl⟩
theorem pkErr_which (b : List UInt8) : pkErr b = 0 ∨ pkErr b = 7 ∨ pkErr b = 8 := by
  unfold pkErr
  split
  · simp
  · split
    · simp
    · split
      · simp
      · split <;> simp

theorem be4_lt (l : List UInt8) (h : l.length = 4) : be l < 4294967296 := by
  have := be_lt l
  rw [h] at this
  exact this
theorem laid_ports (t s : Nat) (cs : List Ck) : be ((laidB t s cs).take 2) = port ∧ be (((laidB t s cs).drop 2).take 2) = port ∧ be (((laidB t s cs).drop 4).take 4) = t % 4294967296 := by
  have hl : (nb port 2).length = 2 := nb_length _ _
  have e : laidB t s cs = nb port 2 ++ (nb port 2 ++ (nb t 4 ++ (nb s 4 ++ flat cs))) := by simp [laidB, headB]
  have e2 : (laidB t s cs).drop 2 = nb port 2 ++ (nb t 4 ++ (nb s 4 ++ flat cs)) := by
    rw [e, List.drop_append_of_le_length (by omega), List.drop_of_length_le (by omega)]; rfl
  have e4 : (laidB t s cs).drop 4 = nb t 4 ++ (nb s 4 ++ flat cs) := by
    have : (laidB t s cs).drop 4 = ((laidB t s cs).drop 2).drop 2 := by rw [List.drop_drop]
    rw [this, e2, List.drop_append_of_le_length (by omega), List.drop_of_length_le (by omega)]; rfl
  refine ⟨?_, ?_, ?_⟩
  · rw [e, List.take_append_of_le_length (by omega), List.take_of_length_le (by omega)]; decide
  · rw [e2, List.take_append_of_le_length (by omega), List.take_of_length_le (by omega)]; decide
  · rw [e4, List.take_append_of_le_length (by rw [nb_length]; omega), List.take_of_length_le (by rw [nb_length]; omega), be_nb]
/-- A packet that is written is read. -/
theorem pk_read_laid (t : Nat) (cs : List Ck) (ht : t < 4294967296) (h : mayB cs = true) (s : Nat) (hs : s = crcS (laidB t 0 cs)) :
    pkErr (laidB t s cs) = 0 ∧ pkCks (laidB t s cs) = cs ∧ pkTag (laidB t s cs) = t := by
  have hlen := laid_length t s cs
  have h3 : rdCks ((laidB t s cs).drop 12) = some cs := by rw [laid_drop12]; exact rdCks_flat cs (mayB_small h)
  have h2 : be (((laidB t s cs).drop 8).take 4) = pkS (laidB t s cs) := by
    rw [laid_mid, laid_pkS, be_nb, hs]
    exact Nat.mod_eq_of_lt (crcE_lt _ _)
  have hp := laid_ports t s cs
  have e : pkErr (laidB t s cs) = 0 := by
    rw [pkErr_some (by omega) h2 h3, if_pos ⟨hp.1, hp.2.1, h⟩]
  obtain ⟨e1, e2⟩ := pkCks_good e h3
  exact ⟨e, e1, by rw [e2, hp.2.2]; exact Nat.mod_eq_of_lt ht⟩
theorem nb_be' (l : List UInt8) (n : Nat) (h : l.length = n) : nb (be l) n = l := by rw [← h, nb_be]
/-- What the bytes are of which a packet is read. -/
theorem pk_good {b : List UInt8} (h : pkErr b = 0) : b = pkB (pkTag b) (pkCks b) ∧ mayB (pkCks b) = true ∧ pkTag b < 4294967296 ∧ b = laidB (pkTag b) (pkS b) (pkCks b) := by
  by_cases hl : b.length < 12
  · rw [pkErr_short hl] at h; omega
  by_cases h2 : be ((b.drop 8).take 4) = pkS b
  · match h3 : rdCks (b.drop 12) with
    | none => rw [pkErr_none hl h2 h3] at h; omega
    | some cs =>
      obtain ⟨e1, e2⟩ := pkCks_good h h3
      rw [pkErr_some hl h2 h3] at h
      by_cases hc : be (b.take 2) = port ∧ be ((b.drop 2).take 2) = port ∧ mayB cs = true
      · obtain ⟨p1, p2, hm⟩ := hc
        obtain ⟨hb, _⟩ := rdCks_some _ _ _ (Nat.lt_succ_self _) h3
        have l1 : (b.take 2).length = 2 := by simp; omega
        have l2 : ((b.drop 2).take 2).length = 2 := by simp; omega
        have l3 : ((b.drop 4).take 4).length = 4 := by simp; omega
        have l4 : ((b.drop 8).take 4).length = 4 := by simp; omega
        have q1 := nb_be' _ 2 l1
        have q2 := nb_be' _ 2 l2
        have q3 := nb_be' _ 4 l3
        have q4 := nb_be' _ 4 l4
        rw [p1] at q1
        rw [p2] at q2
        rw [h2] at q4
        have hbb : b = laidB (pkTag b) (pkS b) (pkCks b) := by
          rw [e1, e2]
          unfold laidB headB
          have q12 : nb port 2 ++ nb port 2 = b.take 2 ++ (b.drop 2).take 2 := by rw [← q2, ← q1]
          rw [q12, q3, q4, ← hb]
          have a1 : b.take 2 ++ (b.drop 2).take 2 = b.take 4 := (List.take_add (i := 2) (j := 2)).symm
          have a2 : b.take 4 ++ (b.drop 4).take 4 = b.take 8 := (List.take_add (i := 4) (j := 4)).symm
          have a3 : b.take 8 ++ (b.drop 8).take 4 = b.take 12 := (List.take_add (i := 8) (j := 4)).symm
          rw [a1, a2, a3, List.take_append_drop]
        refine ⟨?_, by rw [e1]; exact hm, by rw [e2]; exact be4_lt _ l3, hbb⟩
        have hs : pkS b = crcS (laidB (pkTag b) 0 (pkCks b)) := by
          have := laid_pkS (pkTag b) (pkS b) (pkCks b)
          rw [← hbb] at this
          exact this
        unfold pkB
        rw [e1, if_pos hm, ← e1, ← hs]
        exact hbb
      · rw [if_neg hc] at h; omega
  · rw [pkErr_sum hl h2] at h; omega
theorem pkB_nil {t : Nat} {cs : List Ck} (h : mayB cs = false) : pkB t cs = [] := by unfold pkB; rw [if_neg (by simp [h])]
theorem pkB_laid {t : Nat} {cs : List Ck} (h : mayB cs = true) : pkB t cs = laidB t (crcS (laidB t 0 cs)) cs := by unfold pkB; rw [if_pos h]
theorem pk_read_written (t : Nat) (cs : List Ck) (ht : t < 4294967296) (h : mayB cs = true) : pkErr (pkB t cs) = 0 ∧ pkCks (pkB t cs) = cs ∧ pkTag (pkB t cs) = t := by
  rw [pkB_laid h]
  exact pk_read_laid t cs ht h _ rfl
end Go.Proofs.Ythndlhflkbidiaa
