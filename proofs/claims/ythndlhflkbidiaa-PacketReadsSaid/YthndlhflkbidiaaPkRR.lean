/- The plain law of the document's Read of a packet: how far it has come, and what its last test says. -/
import Derived.Test.YthndlhflkbidiaaPkMore
import Derived.Test.YthndlhflkbidiaaPkForm
namespace Go.Proofs.Ythndlhflkbidiaa
open Go.RowKit

/-- So far the chunks are read. -/
def Upto (b : List UInt8) (k : Nat) (pre : List Ck) : Prop := k ≤ b.length ∧ rdCks (b.drop 12) = (rdCks (b.drop k)).map (pre ++ ·)
theorem Upto.first {b : List UInt8} (h : 12 ≤ b.length) : Upto b 12 [] := ⟨h, by cases rdCks (b.drop 12) <;> simp⟩
theorem Upto.step {b : List UInt8} {k : Nat} {pre : List Ck} (h : Upto b k pre) (hk : ckOk (b.drop k) = true) :
    Upto b (k + up (ckLen (b.drop k))) (pre ++ [ckOf (b.drop k)]) ∧ k + up (ckLen (b.drop k)) ≤ b.length ∧ 4 ≤ up (ckLen (b.drop k)) := by
  obtain ⟨_, _, _, h4, hl⟩ := written_read hk
  rw [List.length_drop] at hl
  refine ⟨⟨by omega, ?_⟩, by omega, h4⟩
  rw [h.2, rdCks_ok hk, List.drop_drop]
  cases rdCks (b.drop (k + up (ckLen (b.drop k)))) <;> simp
theorem Upto.bad {b : List UInt8} {k : Nat} {pre : List Ck} (h : Upto b k pre) (hk : k < b.length) (hb : ckOk (b.drop k) = false) : rdCks (b.drop 12) = none := by
  rw [h.2, rdCks_bad (by rw [List.length_drop]; omega) hb]
  rfl
theorem Upto.done {b : List UInt8} {pre : List Ck} (h : Upto b b.length pre) : rdCks (b.drop 12) = some pre := by
  rw [h.2, List.drop_length, rdCks_nil]
  simp
/-- The last test: the bytes are those that are written. -/
theorem laid_back {b : List UInt8} {cs : List Ck} (h12 : 12 ≤ b.length) (h3 : rdCks (b.drop 12) = some cs) :
    eqB (laidB (be ((b.drop 4).take 4)) (be ((b.drop 8).take 4)) cs) b = (decide (be (b.take 2) = port) && decide (be ((b.drop 2).take 2) = port)) := by
  obtain ⟨hb, _⟩ := rdCks_some _ _ _ (Nat.lt_succ_self _) h3
  have l1 : (b.take 2).length = 2 := by simp; omega
  have l2 : ((b.drop 2).take 2).length = 2 := by simp; omega
  have l3 : ((b.drop 4).take 4).length = 4 := by simp; omega
  have l4 : ((b.drop 8).take 4).length = 4 := by simp; omega
  have q1 := nb_be' _ 2 l1
  have q2 := nb_be' _ 2 l2
  have q3 := nb_be' _ 4 l3
  have q4 := nb_be' _ 4 l4
  unfold eqB
  rw [Bool.eq_iff_iff]
  simp only [decide_eq_true_eq, Bool.and_eq_true]
  constructor
  · intro e
    have hp := laid_ports (be ((b.drop 4).take 4)) (be ((b.drop 8).take 4)) cs
    rw [e] at hp
    exact ⟨hp.1, hp.2.1⟩
  · rintro ⟨p1, p2⟩
    rw [p1] at q1
    rw [p2] at q2
    unfold laidB headB
    have q12 : nb port 2 ++ nb port 2 = b.take 2 ++ (b.drop 2).take 2 := by rw [← q2, ← q1]
    rw [q12, q3, q4, ← hb]
    have a1 : b.take 2 ++ (b.drop 2).take 2 = b.take 4 := (List.take_add (i := 2) (j := 2)).symm
    have a2 : b.take 4 ++ (b.drop 4).take 4 = b.take 8 := (List.take_add (i := 4) (j := 4)).symm
    have a3 : b.take 8 ++ (b.drop 8).take 4 = b.take 12 := (List.take_add (i := 8) (j := 4)).symm
    rw [a1, a2, a3, List.take_append_drop]
theorem pkErr_last {b : List UInt8} {cs : List Ck} (h12 : 12 ≤ b.length) (h2 : be ((b.drop 8).take 4) = pkS b) (h3 : rdCks (b.drop 12) = some cs) (mv ev : Bool) (hm : mv = mayB cs)
    (he : ev = eqB (laidB (be ((b.drop 4).take 4)) (be ((b.drop 8).take 4)) cs) b) : pkErr b = if mv = true ∧ ev = true then 0 else 7 := by
  rw [pkErr_some (by omega) h2 h3, he, hm, laid_back h12 h3]
  simp only [Bool.and_eq_true, decide_eq_true_eq]
  by_cases h : be (b.take 2) = port ∧ be ((b.drop 2).take 2) = port ∧ mayB cs = true
  · rw [if_pos h, if_pos ⟨h.2.2, h.1, h.2.1⟩]
  · rw [if_neg h, if_neg (fun e => h ⟨e.2.1, e.2.2, e.1⟩)]
end Go.Proofs.Ythndlhflkbidiaa
