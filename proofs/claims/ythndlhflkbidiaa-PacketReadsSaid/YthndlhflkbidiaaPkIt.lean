/- The iterator over a packet's chunks: its contract, for whatever loop body. -/
import Derived.Test.YthndlhflkbidiaaPkOwn
import Derived.Test.YthndlhflkbidiaaRangeC
import Derived.Shelf.Abstract
import Derived.Shelf.RegionOpen
import Derived.WalkKit
import Derived.OwnWalkIn
import Derived.TacticsInMore
import Derived.LoopNIn
import Derived.LoopIn
namespace Go.Proofs.Ythndlhflkbidiaa
open Go Go.RowKit Go.Shelf

/-- What is handed to the loop's body: a chunk, or that there is none. -/
inductive Ev where
  | ok (p : Cp)
  | bad
def Ev.args : Ev → Array Value
  | .ok p => #[.agg #[.int .u8 (p.c.k.toNat : Int), .int .u8 (p.c.f.toNat : Int), .slice p.A p.c.xs.length p.cap], .int .i64 0]
  | .bad => #[.agg #[.int .u8 0, .int .u8 0, .slice none 0 0], .int .i64 7]
/-- How far the iterator is: what has come; the bytes that are left. -/
structure It where
  pre : List Cp
  A : Option Addr
  m : Nat
  d : Nat
  rest : List UInt8
  base : Nat
structure ItI (G : Nat) (s : It) (w : World) : Prop where
  box : w.heap[G]? = some (.cells #[.slice s.A s.m s.d] 22 (0, 0))
  rd : Rd w s.A s.m s.rest
  md : s.m ≤ s.d
  dm : s.d ≤ 9223372036854775807
  mm : s.m ≤ 1000000
/-- What the iterator itself does to memory. -/
def ItMv (G : Nat) (s : It) (w : World) (s' : It) (w' : World) : Prop :=
  (Below w.heap.size w w' ∧ s' = { s with base := w.heap.size }) ∨
  (∃ k, k ≤ s.m ∧ s' = { s with A := if s.d = k then s.A else s.A.map (·.add k), m := s.m - k, d := s.d - k, rest := s.rest.drop k } ∧
    w' = w.setCell ⟨G, 0, none⟩ (.slice (if s.d = k then s.A else s.A.map (·.add k)) (s.m - k) (s.d - k)))
def ItPre (s : It) : Ev → World → Prop
  | .ok p, w => Bo w s.base p.A p.c.xs.length p.cap p.c.xs ∧ s.pre.length < 250000
  | .bad, _ => True
def ItNx (s : It) : Ev → It → Prop
  | .ok p, s' => s'.pre = s.pre ++ [p] ∧ s'.A = s.A ∧ s'.m = s.m ∧ s'.d = s.d ∧ s'.rest = s.rest
  | .bad, _ => False
def ItT (b : List UInt8) : Ev → Prop
  | .ok _ => True
  | .bad => rdCks b = none
def restLen (G : Nat) (w : World) : Nat :=
  match w.cell? ⟨G, 0, none⟩ with
  | some (.slice _ m _) => m
  | _ => 0
theorem restLen_eq {G : Nat} {w : World} {A : Option Addr} {m d : Nat} (h : w.heap[G]? = some (.cells #[.slice A m d] 22 (0, 0))) : restLen G w = m := by
  unfold restLen
  rw [cell_of_one h]
/-- Where the iterator is, the whole is what has come and what the rest tells. -/
def ItW (b : List UInt8) (s : It) : Prop := rdCks b = (rdCks s.rest).map (s.pre.map (·.c) ++ ·)

set_option maxRecDepth 100000 in
set_option maxHeartbeats 1000000 in
theorem chunks_it (n : Nat) (hn : 3 ≤ n) (l G : Nat) (b : List UInt8) (J : It → World → Prop) (Jx : Ev → World → Prop) (W : World)
    (hMv : ∀ s W s' W', J s W → ItMv G s W s' W' → J s' W') (hJI : ∀ s W, J s W → ItI G s W)
    (hY : ∀ s x W, J s W → ItPre s x W → YieldAt Fence.wide (n - 1) Try.prog l x.args W fun e W' => (e = .returned (.bool true) ∧ ∃ s', ItNx s x s' ∧ J s' W') ∨ (e = .returned (.bool false) ∧ Jx x W'))
    (s0 : It) (h0 : J s0 W) (hp : s0.pre = []) (hr : s0.rest = b) :
    CallsIn Fence.wide n Try.prog 84 #[.func (.yield l) #[] #[], .pointer (some ⟨G, 0, none⟩)] W fun e W' =>
      (∃ v, e = .returned v) ∧ ((∃ s, rdCks b = some (s.pre.map (·.c)) ∧ J s W') ∨ (∃ x, ItT b x ∧ Jx x W')) := by
  have HP := Lib.hid hp
  have HR := Lib.hid hr
  clear hp hr
  refine callsIn_of_wp Try.func84 rfl trivial ?_ rfl
  simp only [Try.ntmps84, List.size_toArray, List.length_cons, List.length_nil, Nat.reduceAdd, Nat.reduceSub, Array.replicate_succ, Array.replicate_zero, List.push_toArray, List.append_toArray, List.nil_append, List.cons_append]
  gi_wp2
  have hm0 := (hJI _ _ h0).mm
  gi_loopw [4] (fun _ wr => ∃ s : It, J s wr ∧ 4 * s.pre.length + s.m ≤ s0.m ∧ Hid (ItW b s)) (fun _ wr => restLen G wr)
  case atStart =>
    refine ⟨s0, h0, by rw [HP.out]; simp, ?_⟩
    show rdCks b = _
    rw [HP.out, HR.out]
    simp
  case round =>
    obtain ⟨s, hJ, hcnt, HW⟩ := hrel
    obtain ⟨pre, A, m, d, rest, base⟩ := s
    simp only at hcnt
    have hI := hJI _ _ hJ
    have hbox := hI.box
    have hrd := hI.rd
    have hmd := hI.md
    have hdm := hI.dm
    have hmm := hI.mm
    simp only at hbox hrd hmd hdm hmm
    clear hI
    have hcell := cell_of_one hbox
    by_cases hm0 : m = 0
    · subst hm0
      gi_wp2
      go_end0
      refine ⟨⟨_, rfl⟩, .inl ⟨_, ?_, hJ⟩⟩
      have e := HW.out
      unfold ItW at e
      obtain rfl : rest = [] := List.eq_nil_of_length_eq_zero hrd.len
      simpa [rdCks_nil] using e
    · have hm0' : (0 : Int) < (m : Int) := by omega
      have hml := hrd.len
      gi_wp2_with fail
      refine ⟨trivial, fun _ => by omega, (callsIn_wide.2 (read_any A m d rest wr hrd hmd hdm hmm)).mono ?_⟩
      rintro e w2 h2
      unfold RdOut at h2
      by_cases hok : ckOk rest = true
      · rw [if_pos hok] at h2
        have hwr := written_read hok
        have hstep := rdCks_ok hok
        unfold RdGood at h2
        obtain ⟨A2, c2, rfl, hB2, hb2⟩ := h2
        have hUl := hwr.2.2.2.2
        rw [hml] at hUl
        have hl2 := hB2.len
        have t3 : Below wr.heap.size wr (w2.alloc (.cells #[.int .u8 (gb rest 0 : Int), .int .u8 (gb rest 1 : Int), .slice A2 (ckLen rest - 4) c2] 45)) := hb2.alloc hb2.size _
        have hJ1 := hMv _ _ _ _ hJ (.inl ⟨t3, rfl⟩)
        have hY1 := hY _ (.ok ⟨ckOf rest, A2, c2⟩) _ hJ1 ⟨(show Bo _ wr.heap.size A2 (ckOf rest).xs.length c2 (ckOf rest).xs from by
          have e : (ckOf rest).xs.length = ckLen rest - 4 := hl2
          rw [e]
          exact hB2.alloc _), (show pre.length < 250000 by omega)⟩
        obtain ⟨fn, tmps, asg, bdy, hy, hR⟩ := hY1
        have ea : (Ev.ok ⟨ckOf rest, A2, c2⟩).args = #[.agg #[.int .u8 (gb rest 0 : Int), .int .u8 (gb rest 1 : Int), .slice A2 (ckLen rest - 4) c2], .int .i64 0] := by
          have e : (ckOf rest).xs.length = ckLen rest - 4 := hl2
          show #[Value.agg #[.int .u8 (gb rest 0 : Int), .int .u8 (gb rest 1 : Int), .slice A2 (ckOf rest).xs.length c2], .int .i64 0] = _
          rw [e]
        rw [ea] at hy
        have HBX := Lib.hid hbox
        clear ea hcell hbox
        have HST := Lib.hid hstep
        have HWR := Lib.hid hwr
        have HML := Lib.hid hml
        have HOK := Lib.hid hok
        clear hstep hwr hml hl2 hok
        gi_wp2_with fail
        refine ⟨fun _ => by omega, hR.mono ?_⟩
        rintro e W3 (⟨rfl, s', ⟨hs1, hs2, hs3, hs4, hs5⟩, hJ3⟩ | ⟨rfl, hx⟩)
        · have hI3 := hJI _ _ hJ3
          have hbox3 := hI3.box
          rw [hs2, hs3, hs4] at hbox3
          simp only at hbox3
          have hcell3 := cell_of_one hbox3
          have hfr3 := free_of_one hbox3
          have hul : (up (ckLen rest) : Int) ≤ (m : Int) := by omega
          have HB3 := Lib.hid hbox3
          have HS1 := Lib.hid hs1
          have HQ := Lib.hid (And.intro hs2 (And.intro hs3 (And.intro hs4 hs5)))
          have h4 := HWR.out.2.2.2.1
          have HL1 := Lib.hid (show s'.pre.length = pre.length + 1 by rw [hs1]; simp)
          clear hs1 hs2 hs3 hs4 hs5 hy hbox3
          gi_wp2
          go_roundw
          case rel =>
            obtain ⟨q2, q3, q4, q5⟩ := HQ.out
            have hul' : up (ckLen rest) ≤ s'.m := by rw [q3]; omega
            have hmv := hMv _ _ _ _ hJ3 (.inr ⟨up (ckLen rest), hul', rfl, rfl⟩)
            rw [q2, q3, q4, q5] at hmv
            refine ⟨_, hmv, ?_, ?_⟩
            · simp only
              rw [HL1.out]
              omega
            show rdCks b = _
            have e := HW.out
            unfold ItW at e
            rw [e, HST.out, Option.map_map]
            congr 1
            funext x
            rw [HS1.out]
            simp
          case measure =>
            rw [restLen_eq (one_setCell HB3.out), restLen_eq HBX.out]
            omega
        · clear hy
          gi_wp2
          refine bodyPost_ret (results_none rfl _ _ _) rfl ?_
          exact ⟨⟨_, rfl⟩, .inr ⟨.ok ⟨ckOf rest, A2, c2⟩, trivial, hx⟩⟩
      · have hok' : ckOk rest = false := by simpa using hok
        rw [if_neg hok] at h2
        obtain ⟨rfl, hb2⟩ := h2
        have hnone : rdCks b = none := by
          have e := HW.out
          unfold ItW at e
          rw [e, rdCks_bad (by omega) hok']
          rfl
        have HN := Lib.hid hnone
        have t3 : Below wr.heap.size wr (w2.alloc (.cells #[.int .u8 0, .int .u8 0, .slice none 0 0] 45)) := hb2.alloc hb2.size _
        have hJ1 := hMv _ _ _ _ hJ (.inl ⟨t3, rfl⟩)
        obtain ⟨fn, tmps, asg, bdy, hy, hR⟩ := hY _ .bad _ hJ1 trivial
        have ea : Ev.bad.args = #[.agg #[.int .u8 0, .int .u8 0, .slice none 0 0], .int .i64 7] := rfl
        rw [ea] at hy
        clear ea hcell hbox hok hok' hnone hml
        gi_wp2_with fail
        refine ⟨fun _ => by omega, hR.mono ?_⟩
        rintro e W3 (⟨rfl, s', hs1, hJ3⟩ | ⟨rfl, hx⟩)
        · exact hs1.elim
        · clear hy
          gi_wp2
          refine bodyPost_ret (results_none rfl _ _ _) rfl ?_
          exact ⟨⟨_, rfl⟩, .inr ⟨.bad, HN.out, hx⟩⟩
end Go.Proofs.Ythndlhflkbidiaa
