/- What is read of a packet's bytes of which one was turned and whose sum was laid anew. -/
import Derived.Test.YthndlhflkbidiaaPkForm
namespace Go.Proofs.Ythndlhflkbidiaa

theorem rdCks_tail (cs : List Ck) (z : List UInt8) (h : ∀ c ∈ cs, small c = true) (hz : z.length ≠ 0) (hk : ckOk z = false) : rdCks (flat cs ++ z) = none := by
  induction cs with
  | nil => exact rdCks_bad hz hk
  | cons c cs ih =>
    have hc := h c (by simp)
    obtain ⟨e1, e2, e3⟩ := read_written hc (flat cs ++ z)
    rw [flat_cons, List.append_assoc, rdCks_ok e1, e2, e3, List.drop_left, ih (fun d hd => h d (by simp [hd]))]
    rfl

section
variable {x : List UInt8} (h : 12 ≤ x.length)
include h
theorem sumd_length : (sumdB x).length = x.length := ov_length (by rw [nb_length]; omega)
theorem sumd_take8 : (sumdB x).take 8 = x.take 8 := by
  unfold sumdB ov
  rw [List.take_append_of_le_length (by rw [List.length_take]; omega), List.take_take, Nat.min_self]
theorem sumd_drop8 : (sumdB x).drop 8 = nb (pkS x) 4 ++ x.drop 12 := by
  unfold sumdB ov
  rw [List.drop_append, List.length_take, Nat.min_eq_left (by omega), List.drop_of_length_le (by rw [List.length_take]; omega), Nat.sub_self, List.nil_append, List.drop_zero, nb_length]
theorem sumd_drop12 : (sumdB x).drop 12 = x.drop 12 := by
  have e : (sumdB x).drop 12 = ((sumdB x).drop 8).drop 4 := by rw [List.drop_drop]
  rw [e, sumd_drop8 h, List.drop_append_of_le_length (by rw [nb_length]; omega), List.drop_of_length_le (by rw [nb_length]; omega)]
  rfl
theorem sumd_mid : ((sumdB x).drop 8).take 4 = nb (pkS x) 4 := by
  rw [sumd_drop8 h, List.take_append_of_le_length (by rw [nb_length]; omega), List.take_of_length_le (by rw [nb_length]; omega)]
theorem sumd_pkS : pkS (sumdB x) = pkS x := by
  unfold pkS
  rw [sumd_take8 h, sumd_drop12 h]
theorem sumd_be : be (((sumdB x).drop 8).take 4) = pkS (sumdB x) := by
  rw [sumd_mid h, sumd_pkS h, be_nb]
  exact Nat.mod_eq_of_lt (pkS_lt x)
theorem sumd_sub (i m : Nat) (hi : i + m ≤ 8) : ((sumdB x).drop i).take m = (x.drop i).take m := by
  have e : ∀ l : List UInt8, (l.drop i).take m = ((l.take 8).drop i).take m := fun l => by
    rw [List.drop_take, List.take_take, Nat.min_eq_left (by omega)]
  rw [e (sumdB x), sumd_take8 h, ← e]
end

theorem port_pair (x : List UInt8) (h : 4 ≤ x.length) : (be (x.take 2) = port ∧ be ((x.drop 2).take 2) = port) ↔ x.take 4 = nb port 2 ++ nb port 2 := by
  have e : x.take 4 = x.take 2 ++ (x.drop 2).take 2 := by rw [show 4 = 2 + 2 from rfl, List.take_add]
  have l1 : (x.take 2).length = 2 := by rw [List.length_take]; omega
  have l2 : ((x.drop 2).take 2).length = 2 := by rw [List.length_take, List.length_drop]; omega
  have hb : be (nb port 2) = port := by decide
  constructor
  · rintro ⟨h1, h2⟩
    rw [e, ← nb_be' (x.take 2) 2 l1, ← nb_be' ((x.drop 2).take 2) 2 l2, h1, h2]
  · intro h1
    rw [e] at h1
    obtain ⟨a, b⟩ := List.append_inj h1 (by rw [l1, nb_length])
    rw [a, b]
    exact ⟨hb, hb⟩

theorem pkErr_sumd {x : List UInt8} (h : 12 ≤ x.length) {cs : List Ck} (hc : rdCks (x.drop 12) = some cs) (hm : mayB cs = true) :
    pkErr (sumdB x) = (if x.take 4 = nb port 2 ++ nb port 2 then 0 else 7) ∧ (pkErr (sumdB x) = 0 → pkTag (sumdB x) = be ((x.drop 4).take 4)) := by
  have hl := sumd_length h
  have h3 : rdCks ((sumdB x).drop 12) = some cs := by rw [sumd_drop12 h]; exact hc
  have h4 : (sumdB x).take 4 = x.take 4 := by simpa using sumd_sub h 0 4 (by omega)
  have e := pkErr_some (by omega) (sumd_be h) h3
  rw [hm] at e
  have hp := port_pair (sumdB x) (by omega)
  rw [h4] at hp
  refine ⟨?_, fun h0 => ?_⟩
  · rw [e]
    by_cases hq : x.take 4 = nb port 2 ++ nb port 2
    · rw [if_pos hq, if_pos ⟨(hp.2 hq).1, (hp.2 hq).2, rfl⟩]
    · rw [if_neg hq, if_neg (fun hh => hq (hp.1 ⟨hh.1, hh.2.1⟩))]
  · rw [(pkCks_good h0 h3).2, sumd_sub h 4 4 (by omega)]

theorem set_iff (l : List UInt8) (i : Nat) (v : UInt8) (h : i < l.length) : l.set i v = l ↔ v.toNat = gb l i := by
  have hg : gb l i = l[i].toNat := by unfold gb; simp [List.getD, h]
  rw [hg]
  constructor
  · intro e
    have := congrArg (fun m => m[i]?) e
    simp [h] at this
    rw [this]
  · intro e
    have : v = l[i] := UInt8.toNat_inj.1 e
    rw [this]
    simp

theorem be_inj4 {a b : List UInt8} (ha : a.length = 4) (hb : b.length = 4) (h : be a = be b) : a = b := by
  rw [← nb_be' a 4 ha, ← nb_be' b 4 hb, h]

/-- One of the first eight bytes turned. -/
theorem form_read (t : Nat) (cs : List Ck) (ht : t < 4294967296) (hm : mayB cs = true) (p : Nat) (v : UInt8) (hp : p < 8) (b : List UInt8) (hb : b = pkB t cs) :
    (p < 4 → pkErr (sumdB (b.set p v)) = if v.toNat = gb b p then 0 else 7) ∧
    (4 ≤ p → pkErr (sumdB (b.set p v)) = 0 ∧ (pkTag (sumdB (b.set p v)) = t ↔ v.toNat = gb b p)) := by
  have hbl := pkB_laid (t := t) hm
  obtain ⟨s, hs⟩ : ∃ s, s = crcS (laidB t 0 cs) := ⟨_, rfl⟩
  rw [← hs] at hbl
  rw [hbl] at hb
  have hlen := laid_length t s cs
  rw [← hb] at hlen
  have hd : (b.set p v).drop 12 = flat cs := by
    rw [List.drop_set_of_lt (by omega), hb, laid_drop12]
  have hx : 12 ≤ (b.set p v).length := by rw [List.length_set]; omega
  obtain ⟨h1, h2⟩ := pkErr_sumd hx (by rw [hd]; exact rdCks_flat cs (mayB_small hm)) hm
  have hports := laid_ports t s cs
  rw [← hb] at hports
  have h4 : b.take 4 = nb port 2 ++ nb port 2 := (port_pair b (by omega)).1 ⟨hports.1, hports.2.1⟩
  have e4 : (b.set p v).take 4 = (b.take 4).set p v := by rw [List.take_set]
  constructor
  · intro hp4
    rw [h1, e4]
    have hi := set_iff (b.take 4) p v (by rw [List.length_take]; omega)
    have hg : gb (b.take 4) p = gb b p := by unfold gb; simp [List.getD, hp4]
    rw [hg] at hi
    by_cases hv : v.toNat = gb b p
    · rw [if_pos hv, if_pos (by rw [hi.2 hv]; exact h4)]
    · rw [if_neg hv, if_neg (fun e => hv (hi.1 (e.trans h4.symm)))]
  · intro hp4
    have e0 : pkErr (sumdB (b.set p v)) = 0 := by
      rw [h1, e4, List.set_eq_of_length_le (by rw [List.length_take]; omega), if_pos h4]
    refine ⟨e0, ?_⟩
    rw [h2 e0]
    have ed : ((b.set p v).drop 4).take 4 = ((b.drop 4).take 4).set (p - 4) v := by
      rw [List.drop_set, if_neg (by omega), List.take_set]
    have ll : ((b.drop 4).take 4).length = 4 := by rw [List.length_take, List.length_drop]; omega
    have et : be ((b.drop 4).take 4) = t := by rw [hports.2.2]; exact Nat.mod_eq_of_lt ht
    have hi := set_iff ((b.drop 4).take 4) (p - 4) v (by omega)
    have hg : gb ((b.drop 4).take 4) (p - 4) = gb b p := by
      rw [gb_mid _ _ _ _ (by omega)]
      congr 1
      omega
    rw [hg] at hi
    rw [ed]
    constructor
    · intro h
      exact hi.1 (be_inj4 (by rw [List.length_set, ll]) ll (h.trans et.symm))
    · intro h
      rw [hi.2 h, et]

theorem form_short (b : List UInt8) (h : 12 ≤ b.length) : pkErr (sumdB (b.take 12)) = 7 := by
  have hl : (b.take 12).length = 12 := by rw [List.length_take]; omega
  have h3 : rdCks ((sumdB (b.take 12)).drop 12) = some [] := by rw [sumd_drop12 (by omega), List.drop_of_length_le (by omega)]; rfl
  rw [pkErr_some (by rw [sumd_length (by omega)]; omega) (sumd_be (by omega)) h3, if_neg (fun h => by have := h.2.2; revert this; decide)]
theorem form_long (t : Nat) (cs : List Ck) (hm : mayB cs = true) (b : List UInt8) (hb : b = pkB t cs) : pkErr (sumdB (b ++ [0, 0, 0])) = 7 := by
  rw [pkB_laid hm] at hb
  have hlen := laid_length t (crcS (laidB t 0 cs)) cs
  rw [← hb] at hlen
  have hx : 12 ≤ (b ++ [0, 0, 0]).length := by rw [List.length_append]; omega
  have h3 : rdCks ((sumdB (b ++ [0, 0, 0])).drop 12) = none := by
    rw [sumd_drop12 hx, List.drop_append_of_le_length (by omega), hb, laid_drop12]
    exact rdCks_tail cs _ (mayB_small hm) (by simp) (by decide)
  exact pkErr_none (by rw [sumd_length hx]; omega) (sumd_be hx) h3
theorem set_back (b : List UInt8) (p : Nat) (v : UInt8) (h : p < b.length) : (b.set p v).set p (UInt8.ofNat (gb b p)) = b := by
  have hg : UInt8.ofNat (gb b p) = b[p] := by unfold gb; simp [List.getD, h]
  rw [List.set_set, hg]
  simp
end Go.Proofs.Ythndlhflkbidiaa
