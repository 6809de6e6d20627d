/- What packet.Read holds between two chunks. -/
import Derived.Test.YthndlhflkbidiaaPkIt
namespace Go.Proofs.Ythndlhflkbidiaa
open Go Go.RowKit

/-- All blocks of cells but some are as they were. -/
structure KC (E : Nat → Prop) (W W' : World) : Prop where
  size : W.heap.size ≤ W'.heap.size
  same : ∀ k cs t fr, W.heap[k]? = some (.cells cs t fr) → ¬ E k → W'.heap[k]? = some (.cells cs t fr)
theorem KC.refl (E : Nat → Prop) (W : World) : KC E W W := ⟨Nat.le_refl _, fun _ _ _ _ h _ => h⟩
theorem KC.trans {E : Nat → Prop} {A B C : World} (h : KC E A B) (k : KC E B C) : KC E A C := ⟨Nat.le_trans h.size k.size, fun i cs t fr hi he => k.same i cs t fr (h.same i cs t fr hi he) he⟩
theorem KC.mono {E E' : Nat → Prop} {W W' : World} (h : KC E W W') (hE : ∀ k, E k → E' k) : KC E' W W' := ⟨h.size, fun k cs t fr hk he => h.same k cs t fr hk (fun e => he (hE k e))⟩
theorem KC.of_below {E : Nat → Prop} {W W' : World} (h : Below W.heap.size W W') : KC E W W' := ⟨h.size, fun k _ _ _ hk _ => (h.block k (lt_of_heap hk)).trans hk⟩
theorem KC.alloc (E : Nat → Prop) (W : World) (o : Obj) : KC E W (W.alloc o) := ⟨by simp, fun k _ _ _ hk _ => (Below.heap_alloc W o k (lt_of_heap hk)).trans hk⟩
theorem KC.others {E : Nat → Prop} {W W' : World} {row : Option Nat} (hg : W.grownBy W' row) (hr : ∀ r, row = some r → ∃ o : Obj, W.heap[r]? = some o ∧ o.isCells = false) : KC E W W' :=
  ⟨hg.size, fun k cs t fr hk _ => (hg.block k (lt_of_heap hk) (fun e => by
    obtain ⟨o, ho, hc⟩ := hr k e.symm
    rw [hk] at ho; cases ho; cases hc)).trans hk⟩
theorem KC.row {W W' : World} {row : Option Nat} (hg : W.grownBy W' row) : KC (fun k => row = some k) W W' :=
  ⟨hg.size, fun k _ _ _ hk he => (hg.block k (lt_of_heap hk) (fun e => he e.symm)).trans hk⟩
theorem KC.setCell (W : World) (p : Addr) (v : Value) : KC (fun k => k = p.block) W (W.setCell p v) :=
  ⟨by simp [World.setCell], fun k _ _ _ hk he => (Below.heap_setCell W p v k he).trans hk⟩
theorem KC.putObj {E : Nat → Prop} {W : World} {l : Nat} {o : Obj} (o' : Obj) (hl : W.heap[l]? = some o) (hc : o.isCells = false) : KC E W (W.putObj l o') :=
  KC.others (grownBy_putObj' W l o') (fun r e => by cases e; exact ⟨o, hl, hc⟩)

/-- Bodies that a call owns, each in a block of its own. -/
structure Bodies (w : World) (base : Nat) (ps : List Cp) : Prop where
  own : ∀ p ∈ ps, Bo w base p.A p.c.xs.length p.cap p.c.xs
  apart : ∀ i j (hi : i < ps.length) (hj : j < ps.length) g, 0 < (ps[i]).cap → 0 < (ps[j]).cap → (ps[i]).A = some ⟨g, 0, none⟩ → (ps[j]).A = some ⟨g, 0, none⟩ → i = j
theorem Bodies.nil (w : World) (base : Nat) : Bodies w base [] := ⟨by simp, fun i _ hi => absurd hi (by simp)⟩
theorem Bodies.ok {w : World} {base : Nat} {ps : List Cp} (h : Bodies w base ps) : ∀ p ∈ ps, BodyOk w p := fun p hp => by
  have hb := h.own p hp
  exact ⟨hb.rd, hb.2.1, by have := hb.2.2.1; unfold maxLen at this; omega⟩
theorem Bo.kc {E : Nat → Prop} {W W' : World} {base n c : Nat} {A : Option Addr} {xs : List UInt8} (h : Bo W base A n c xs) (k : KC E W W') (hE : ∀ g cs, W.heap[g]? = some (.cells cs 5 (0, 0)) → ¬ E g) : Bo W' base A n c xs :=
  ⟨h.1, h.2.1, h.2.2.1, fun hc => by
    obtain ⟨g, ys, e, hg, hl, hh⟩ := h.2.2.2 hc
    exact ⟨g, ys, e, hg, hl, k.same g _ _ _ hh (hE g _ hh)⟩⟩
theorem Bodies.kc {E : Nat → Prop} {W W' : World} {base : Nat} {ps : List Cp} (h : Bodies W base ps) (k : KC E W W') (hE : ∀ g cs, W.heap[g]? = some (.cells cs 5 (0, 0)) → ¬ E g) : Bodies W' base ps :=
  ⟨fun p hp => (h.own p hp).kc k hE, h.apart⟩
theorem OwnC.kc {E : Nat → Prop} {W W' : World} {base : Nat} {v : Value} {ps : List Cp} (h : OwnC W base v ps) (k : KC E W W') (hE : ∀ g cs, W.heap[g]? = some (.cells cs 45 (0, 0)) → ¬ E g) : OwnC W' base v ps := by
  refine ⟨h.1, ?_⟩
  rcases h.2 with h0 | ⟨g, cap, cur, e, hb, hh, r1, r2, r3, r4⟩
  · exact .inl h0
  · exact .inr ⟨g, cap, cur, e, hb, k.same g _ _ _ hh (hE g _ hh), r1, r2, r3, r4⟩
theorem OwnC.block {W : World} {base : Nat} {v : Value} {ps : List Cp} (h : OwnC W base v ps) {g : Nat} (e : v.ownBlock = some g) : base ≤ g ∧ ∃ cs, W.heap[g]? = some (.cells cs 45 (0, 0)) := by
  rcases h.2 with ⟨rfl, _⟩ | ⟨g', cap, cur, rfl, hb, hh, _⟩
  · cases e
  · have : g' = g := by simpa [Value.ownBlock] using e
    subst this
    exact ⟨hb, _, hh⟩

/-- Between two chunks: w: where the call began; P: the packet's own block; the iterator's lies behind it. -/
structure RdI (w : World) (P T : Nat) (s : It) (A : Option Addr) (n c : Nat) (W : World) : Prop where
  box : W.heap[P + 1]? = some (.cells #[.slice s.A s.m s.d] 22 (0, 0))
  rd : Rd w s.A s.m s.rest
  md : s.m ≤ s.d
  dm : s.d ≤ 9223372036854775807
  mm : s.m ≤ 1000000
  below : Below w.heap.size w W
  r0 : W.heap[w.heap.size]? = some (.cells #[.int .u32 0, .slice none 0 0] 43 (0, 0))
  r1 : W.heap[w.heap.size + 1]? = some (.cells #[.int .i64 0] 26 (0, 0))
  pb : W.heap[P]? = some (.cells #[.int .u32 (T : Int), .slice A n c] 43 (0, 0))
  own : OwnC W (P + 2) (.slice A n c) s.pre
  bod : Bodies W (P + 2) s.pre
  lt : ∀ p ∈ s.pre, ∀ g, 0 < p.cap → p.A = some ⟨g, 0, none⟩ → g < s.base
  base0 : P + 2 ≤ s.base
  base : s.base ≤ W.heap.size
  far : w.heap.size + 1 < P
theorem RdI.it {w W : World} {P T n c : Nat} {s : It} {A : Option Addr} (h : RdI w P T s A n c W) : ItI (P + 1) s W := ⟨h.box, h.rd.below h.below, h.md, h.dm, h.mm⟩

theorem RdI.keep {E : Nat → Prop} {w W W' : World} {P T n c : Nat} {s s' : It} {A : Option Addr} (h : RdI w P T s A n c W) (k : KC E W W') (hE : ∀ g cs t, W.heap[g]? = some (.cells cs t (0, 0)) → t ≠ 22 → ¬ E g)
    (hb : Below w.heap.size w W') (hp : s'.pre = s.pre) (hb1 : s.base ≤ s'.base) (hb2 : s'.base ≤ W'.heap.size)
    (hbox : W'.heap[P + 1]? = some (.cells #[.slice s'.A s'.m s'.d] 22 (0, 0))) (hrd : Rd w s'.A s'.m s'.rest) (md : s'.m ≤ s'.d) (dm : s'.d ≤ 9223372036854775807) (mm : s'.m ≤ 1000000) : RdI w P T s' A n c W' where
  box := hbox
  rd := hrd
  md := md
  dm := dm
  mm := mm
  below := hb
  r0 := k.same _ _ _ _ h.r0 (hE _ _ _ h.r0 (by decide))
  r1 := k.same _ _ _ _ h.r1 (hE _ _ _ h.r1 (by decide))
  pb := k.same _ _ _ _ h.pb (hE _ _ _ h.pb (by decide))
  own := by rw [hp]; exact h.own.kc k (fun g cs hg => hE g cs _ hg (by decide))
  bod := by rw [hp]; exact h.bod.kc k (fun g cs hg => hE g cs _ hg (by decide))
  lt := by rw [hp]; exact fun p hm g hc hA => Nat.lt_of_lt_of_le (h.lt p hm g hc hA) hb1
  base0 := Nat.le_trans h.base0 hb1
  base := hb2
  far := h.far

/-- The iterator's own steps. -/
theorem RdI.move {w W W' : World} {P T n c : Nat} {s s' : It} {A : Option Addr} (h : RdI w P T s A n c W) (hm : ItMv (P + 1) s W s' W') : RdI w P T s' A n c W' := by
  rcases hm with ⟨hb, rfl⟩ | ⟨k, hk, rfl, rfl⟩
  · have hbb := h.below.trans (hb.mono h.below.size)
    exact h.keep (E := fun _ => False) (KC.of_below hb) (fun _ _ _ _ _ e => e) hbb rfl h.base hb.size (stays h.box hb) h.rd h.md h.dm h.mm
  · have hw : w.heap.size ≤ P + 1 := by have := h.far; omega
    refine h.keep (KC.setCell W ⟨P + 1, 0, none⟩ _) (fun g cs t hg ht e => ?_) (h.below.setCell (p := ⟨P + 1, 0, none⟩) hw _) rfl (Nat.le_refl _) (by simpa [World.setCell] using h.base) (one_setCell h.box) ?_ ?_ ?_ ?_
    · simp only at e
      subst e
      rw [h.box] at hg
      simp at hg
      exact ht hg.2.symm
    · have hc := h.rd.cut (k := k) (m := s.m - k) (by omega) h.md _ rfl
      rw [List.take_of_length_le (by rw [List.length_drop, h.rd.len]; omega)] at hc
      exact hc
    · have := h.md; simp only; omega
    · have := h.dm; simp only; omega
    · have := h.mm; simp only; omega
theorem RdI.others {w W W' : World} {P T n c B : Nat} {s : It} {A : Option Addr} (h : RdI w P T s A n c W) (hB : w.heap.size ≤ B) {row : Option Nat} (hg : W.grownBy W' row)
    (hr : ∀ r, row = some r → B ≤ r ∧ ∃ o : Obj, W.heap[r]? = some o ∧ o.isCells = false) : RdI w P T s A n c W' := by
  have k : KC (fun _ => False) W W' := KC.others hg (fun r e => (hr r e).2)
  refine h.keep k (fun _ _ _ _ _ e => e) ?_ rfl (Nat.le_refl _) (Nat.le_trans h.base hg.size) (k.same _ _ _ _ h.box (fun e => e)) h.rd h.md h.dm h.mm
  exact h.below.grown hg h.below.size (fun r e => by have := (hr r e).1; omega)
/-- The law's own book-keeping. -/
theorem RdI.own_ (w : World) (P T B : Nat) (hB : w.heap.size ≤ B) : OwnFrom B (fun s W => ∃ A n c, RdI w P T s A n c W) := by
  rintro s W W' row ⟨A, n, c, h⟩ hg hr
  exact ⟨A, n, c, h.others hB hg hr⟩
theorem RdI.alloc {w W : World} {P T n c : Nat} {s : It} {A : Option Addr} (h : RdI w P T s A n c W) (o : Obj) : RdI w P T s A n c (W.alloc o) :=
  h.keep (E := fun _ => False) (KC.alloc _ W o) (fun _ _ _ _ _ e => e) (h.below.alloc h.below.size o) rfl (Nat.le_refl _) (Nat.le_trans h.base (by simp)) ((Below.heap_alloc W o _ (lt_of_heap h.box)).trans h.box) h.rd h.md h.dm h.mm
theorem RdI.len {w W : World} {P T n c : Nat} {s : It} {A : Option Addr} (h : RdI w P T s A n c W) : n = s.pre.length := (h.own.cks h.bod.ok).1

theorem RdI.pb1 {w W w1 : World} {P T n c : Nat} {s : It} {A : Option Addr} (h : RdI w P T s A n c W) {tmp : Obj} (hg : (W.alloc tmp).grownBy w1 (Value.slice A n c).ownBlock) :
    w1.heap[P]? = some (.cells #[.int .u32 (T : Int), .slice A n c] 43 (0, 0)) := by
  have ha := h.alloc tmp
  refine (KC.row hg).same _ _ _ _ ha.pb (fun e => ?_)
  obtain ⟨_, cs', hh'⟩ := ha.own.block e
  rw [ha.pb] at hh'
  simp at hh'
/-- One chunk more. -/
theorem RdI.more {w W w1 : World} {P T n c : Nat} {s : It} {A : Option Addr} (h : RdI w P T s A n c W) {p : Cp} (hp : Bo W s.base p.A p.c.xs.length p.cap p.c.xs) {tmp : Obj} {A' : Option Addr} {n' c' : Nat}
    (hown : OwnC w1 (P + 2) (.slice A' n' c') (s.pre ++ [p])) (hg : (W.alloc tmp).grownBy w1 (Value.slice A n c).ownBlock) (B : Nat) :
    KeepsFrom B W (w1.setCell ⟨P, 1, none⟩ (.slice A' n' c')) ∧ ∃ s', ItNx s (.ok p) s' ∧ RdI w P T s' A' n' c' (w1.setCell ⟨P, 1, none⟩ (.slice A' n' c')) := by
  have ha := h.alloc tmp
  have hrow : ∀ g, (Value.slice A n c).ownBlock = some g → ∃ cs, (W.alloc tmp).heap[g]? = some (.cells cs 45 (0, 0)) := fun g e => (ha.own.block e).2
  have hrow2 : ∀ g, (Value.slice A n c).ownBlock = some g → P + 2 ≤ g := fun g e => (ha.own.block e).1
  have k1 := KC.row hg
  have hno : ∀ g cs t, (W.alloc tmp).heap[g]? = some (.cells cs t (0, 0)) → t ≠ 45 → ¬ (Value.slice A n c).ownBlock = some g := fun g cs t hh ht e => by
    obtain ⟨cs', hh'⟩ := hrow g e
    rw [hh] at hh'
    simp at hh'
    exact ht hh'.2
  have k2 := KC.setCell w1 ⟨P, 1, none⟩ (.slice A' n' c')
  have pb1 := k1.same _ _ _ _ ha.pb (hno _ _ _ ha.pb (by decide))
  have k2n : ∀ g cs t, w1.heap[g]? = some (.cells cs t (0, 0)) → t ≠ 43 → ¬ g = P := fun g cs t hh ht e => by
    subst e
    rw [pb1] at hh
    simp at hh
    exact ht hh.2.symm
  have step : ∀ (g : Nat) (cs : Array Value) (t : TypeId), (W.alloc tmp).heap[g]? = some (Obj.cells cs t (0, 0)) → t ≠ 45 → t ≠ 43 → (w1.setCell ⟨P, 1, none⟩ (.slice A' n' c')).heap[g]? = some (Obj.cells cs t (0, 0)) := fun g cs t hh h1 h2 => by
    have e1 := k1.same _ _ _ _ hh (hno _ _ _ hh h1)
    exact k2.same _ _ _ _ e1 (k2n _ _ _ e1 h2)
  have hfar := h.far
  have hbw : w.heap.size ≤ (W.alloc tmp).heap.size := ha.below.size
  have hsz : W.heap.size ≤ (w1.setCell ⟨P, 1, none⟩ (.slice A' n' c')).heap.size := by
    have := hg.size
    simp [World.setCell] at this ⊢
    omega
  refine ⟨(((KeepsOthers.alloc W tmp).trans (KeepsOthers.of_grownBy hg fun j o ej hj => ?_)).trans (KeepsOthers.setCell _ _ _)).from B, ⟨s.pre ++ [p], s.A, s.m, s.d, s.rest, (w1.setCell ⟨P, 1, none⟩ (.slice A' n' c')).heap.size⟩, ⟨rfl, rfl, rfl, rfl, rfl⟩, ?_⟩
  · obtain ⟨cs, hc⟩ := hrow j ej
    rw [hc] at hj; cases hj; rfl
  · have hbb : Below w.heap.size w (w1.setCell ⟨P, 1, none⟩ (.slice A' n' c')) :=
      (ha.below.grown hg hbw (fun g e => by have := hrow2 g e; omega)).setCell (p := ⟨P, 1, none⟩) (by simp only; omega) _
    have hp1 := hp.alloc tmp
    have hbod : ∀ q ∈ s.pre ++ [p], Bo (w1.setCell ⟨P, 1, none⟩ (.slice A' n' c')) (P + 2) q.A q.c.xs.length q.cap q.c.xs := fun q hq => by
      have hq1 : Bo (W.alloc tmp) (P + 2) q.A q.c.xs.length q.cap q.c.xs := by
        rcases List.mem_append.1 hq with hq | hq
        · exact ha.bod.own q hq
        · obtain rfl : q = p := by simpa using hq
          exact hp1.mono h.base0
      refine ⟨hq1.1, hq1.2.1, hq1.2.2.1, fun hc => ?_⟩
      obtain ⟨g, ys, e, hb, hl, hh⟩ := hq1.2.2.2 hc
      exact ⟨g, ys, e, hb, hl, step g _ _ hh (by decide) (by decide)⟩
    have hpl := hp.place
    refine ⟨step _ _ _ ha.box (by decide) (by decide), h.rd, h.md, h.dm, h.mm, hbb, ?_, step _ _ _ ha.r1 (by decide) (by decide), ?_, ?_, ⟨hbod, ?_⟩, ?_, ?_, Nat.le_refl _, h.far⟩
    · exact k2.same _ _ _ _ (k1.same _ _ _ _ ha.r0 (hno _ _ _ ha.r0 (by decide))) (by simp only; omega)
    · exact heap_setCell_same w1 P 1 _ 43 (.slice A' n' c') pb1
    · exact hown.kc k2 (fun g cs hh => k2n g cs _ hh (by decide))
    · intro i j hi hj g ci cj ei ej
      have hsl : ∀ q ∈ s.pre, ∀ g, 0 < q.cap → q.A = some ⟨g, 0, none⟩ → g < s.base := h.lt
      simp only [List.length_append, List.length_cons, List.length_nil] at hi hj
      by_cases h1 : i < s.pre.length
      · by_cases h2 : j < s.pre.length
        · rw [List.getElem_append_left h1] at ci ei
          rw [List.getElem_append_left h2] at cj ej
          exact h.bod.apart i j h1 h2 g ci cj ei ej
        · rw [List.getElem_append_left h1] at ci ei
          rw [List.getElem_append_right (by omega)] at cj ej
          have e0 : j - s.pre.length = 0 := by omega
          simp only [e0, List.getElem_cons_zero] at cj ej
          have a1 := hsl _ (List.getElem_mem h1) g ci ei
          have a2 := (hpl g cj ej).1
          omega
      · by_cases h2 : j < s.pre.length
        · rw [List.getElem_append_left h2] at cj ej
          rw [List.getElem_append_right (by omega)] at ci ei
          have e0 : i - s.pre.length = 0 := by omega
          simp only [e0, List.getElem_cons_zero] at ci ei
          have a1 := hsl _ (List.getElem_mem h2) g cj ej
          have a2 := (hpl g ci ei).1
          omega
        · omega
    · intro q hq g hc hA
      rcases List.mem_append.1 hq with hq | hq
      · have := h.lt q hq g hc hA
        have := h.base
        simp only
        omega
      · obtain rfl : q = p := by simpa using hq
        have := (hpl g hc hA).2
        simp only
        omega
    · have := h.base0
      have := h.base
      simp only
      omega

/-- append of one chunk onto what is owned, in a round. -/
theorem wpListIn_chunk {F : Fence} {n : Nat} (w : World) {ops : Array Oper} {rest : List Oper} {o : Oper} {a : Act} {Q : Exit → Act → World → Prop} (hgd : o.guard = none) (s x : Operand)
    (ho : o.op = .call { callee := .builtin .append, args := #[s, x], argTypes := #[41, 41] }) (base : Nat) (v : Value) (ps : List Cp) (p : Cp) (hs : a.eval s = v) (hown : OwnC w base v ps)
    (g : Nat) (hx : a.eval x = .slice (some ⟨g, 0, none⟩) 1 1) (hc : w.heap[g]? = some (.cells p.vals.toArray 45 (0, 0)))
    (hlen : ps.length ≤ 1000000) (hbase : base ≤ w.heap.size)
    (hK : ∀ A c w', OwnC w' base (.slice A (ps.length + 1) c) (ps ++ [p]) → w.grownBy w' v.ownBlock → wpListIn F n Try.prog ops Q rest (a.put o.dst (.slice A (ps.length + 1) c)) w') :
    wpListIn F n Try.prog ops Q (o :: rest) a w := by
  obtain ⟨i0, hi, hz0, hz1, hz2⟩ := info_parts info45'
  refine wpListIn_append_own w hgd s x 41 ho base 45 i0 _ 3 32 Try.underlying41 hi hz0 hz1 hz2 rfl (by decide) v ps.length (rowsV ps) hs hown ⟨g, 0, none⟩ 1 1 (rowsV [p]) hx (by rw [rowsV_length]; rfl) (by rw [rowsV_one]; exact cells_block hc) (rowsV_cell [p]) (by unfold maxLen; omega) (by omega) hbase ?_
  intro v' w' h1 h2 _
  have h3 : OwnC w' base v' (ps ++ [p]) := by
    unfold OwnC
    rw [List.length_append, rowsV_append]
    exact h1
  obtain ⟨A, c', rfl, _⟩ := h3.form
  rw [List.length_append] at h3 ⊢
  exact hK A c' w' h3 h2
theorem OwnC.mono {w : World} {B B' : Nat} {v : Value} {ps : List Cp} (h : OwnC w B v ps) (hb : B' ≤ B) : OwnC w B' v ps := by
  refine ⟨h.1, ?_⟩
  rcases h.2 with h0 | ⟨g, cap, cur, e, hg, hh⟩
  · exact .inl h0
  · exact .inr ⟨g, cap, cur, e, Nat.le_trans hb hg, hh⟩
theorem Bodies.mono {w : World} {B B' : Nat} {ps : List Cp} (h : Bodies w B ps) (hb : B' ≤ B) : Bodies w B' ps := ⟨fun p hp => (h.own p hp).mono hb, h.apart⟩
/-- What lies behind the call: the results' blocks are written, the block of the deferred calls is shut. -/
theorem fin59 {w W : World} {a b d : Value} {x y u : Value} {D : Nat} (hb : Below w.heap.size w W) (h0 : W.heap[w.heap.size]? = some (.cells #[x, y] 43 (0, 0))) (h1 : W.heap[w.heap.size + 1]? = some (.cells #[u] 26 (0, 0)))
    (hK : W.heap[D]? = some (.deferred (some []))) (hD : w.heap.size ≤ D) :
    ∀ Wf, Wf = ((W.setCell ⟨w.heap.size, 0, none⟩ a).setCell ⟨w.heap.size, 1, none⟩ b).setCell ⟨w.heap.size + 1, 0, none⟩ d →
    Wf.heap[D]? = some (.deferred (some [])) ∧ (Wf.putObj D (.deferred none)).heap[w.heap.size]? = some (.cells #[a, b] 43 (0, 0)) ∧ (Wf.putObj D (.deferred none)).heap[w.heap.size + 1]? = some (.cells #[d] 26 (0, 0)) ∧
      Below w.heap.size w (Wf.putObj D (.deferred none)) ∧ KC (fun k => k = w.heap.size ∨ k = w.heap.size + 1) W (Wf.putObj D (.deferred none)) := by
  rintro Wf rfl
  have hD0 : D ≠ w.heap.size := by rintro rfl; rw [h0] at hK; cases hK
  have hD1 : D ≠ w.heap.size + 1 := by rintro rfl; rw [h1] at hK; cases hK
  have e0 := heap_setCell_same W w.heap.size 0 _ 43 a h0
  have e1 := heap_setCell_same _ w.heap.size 1 _ 43 b e0
  have hKf : (((W.setCell ⟨w.heap.size, 0, none⟩ a).setCell ⟨w.heap.size, 1, none⟩ b).setCell ⟨w.heap.size + 1, 0, none⟩ d).heap[D]? = some (.deferred (some [])) := by
    rw [Below.heap_setCell _ _ _ _ hD1, Below.heap_setCell _ _ _ _ hD0, Below.heap_setCell _ _ _ _ hD0]
    exact hK
  refine ⟨hKf, ?_, ?_, ?_, ?_⟩
  · rw [World.putObj_heap_other (Ne.symm hD0), Below.heap_setCell _ _ _ _ (by simp)]
    exact e1
  · rw [World.putObj_heap_other (Ne.symm hD1)]
    refine one_setCell (v := u) ?_
    rw [Below.heap_setCell _ _ _ _ (by simp), Below.heap_setCell _ _ _ _ (by simp)]
    exact h1
  · refine (((hb.setCell (p := ⟨w.heap.size, 0, none⟩) (by simp) _).setCell (p := ⟨w.heap.size, 1, none⟩) (by simp) _).setCell (p := ⟨w.heap.size + 1, 0, none⟩) (by simp) _).grown (grownBy_putObj' _ D _) ?_ (fun k e => by cases e; exact hD)
    simp [World.setCell]
    exact hb.size
  · refine KC.trans (KC.trans (KC.trans ((KC.setCell _ _ _).mono (fun k e => .inl e)) ((KC.setCell _ _ _).mono (fun k e => .inl e))) ((KC.setCell _ _ _).mono (fun k e => .inr e))) (KC.putObj _ hKf rfl)
end Go.Proofs.Ythndlhflkbidiaa
