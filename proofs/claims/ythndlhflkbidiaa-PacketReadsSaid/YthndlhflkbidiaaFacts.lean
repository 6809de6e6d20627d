/- The closed facts on the whole program that every row asks and that are dear, laid once. The program's head is spelt sign by sign; only its first words are looked at. -/
import Derived.Test.YthndlhflkbidiaaRows
import Derived.JoinedOf
import Derived.KernelRfl
namespace Go.Proofs.Ythndlhflkbidiaa

def word1 : List Char := [104, 97, 114, 110, 101, 115, 115].map Char.ofNat
def word2 : List Char := [55, 49, 97, 101, 99, 56, 99, 99, 97, 98, 57, 55, 51, 56, 54, 100, 100, 99, 101, 50, 100, 52, 101, 48, 48, 53, 49, 49, 99, 100, 57, 55, 51, 98, 98, 57, 49, 102, 100, 56, 99, 51, 99, 57, 101, 49, 53, 50, 49, 53, 51, 99, 55, 98, 50, 57, 53, 98, 51, 99, 49, 98, 102, 51].map Char.ofNat
def word3 : List Char := [99, 117, 116].map Char.ofNat
def headRest : List Nat := [
  97, 116, 32, 102, 97, 105, 114, 108, 101, 97, 100, 47, 102, 97, 105, 114, 108, 101, 97, 100, 108, 97, 119, 48, 49, 46, 79, 99, 116, 101, 116, 71, 101, 116, 115, 32, 102, 97, 105, 114,
  108, 101, 97, 100, 47, 102, 97, 105, 114, 108, 101, 97, 100, 108, 97, 119, 48, 49, 46, 79, 99, 116, 101, 116, 80, 117, 116, 115, 32, 102, 97, 105, 114, 108, 101, 97, 100, 47, 102, 97,
  105, 114, 108, 101, 97, 100, 108, 97, 119, 48, 49, 46, 79, 99, 116, 101, 116, 67, 117, 116, 115, 32, 102, 97, 105, 114, 108, 101, 97, 100, 47, 102, 97, 105, 114, 108, 101, 97, 100, 108,
  97, 119, 48, 49, 46, 79, 99, 116, 101, 116, 80, 97, 100, 115, 32, 102, 97, 105, 114, 108, 101, 97, 100, 47, 102, 97, 105, 114, 108, 101, 97, 100, 108, 97, 119, 48, 49, 46, 79, 99,
  116, 101, 116, 82, 111, 117, 110, 100, 115, 32, 102, 97, 105, 114, 108, 101, 97, 100, 47, 102, 97, 105, 114, 108, 101, 97, 100, 108, 97, 119, 49, 48, 46, 80, 97, 99, 107, 101, 116, 70,
  105, 116, 115, 32, 102, 97, 105, 114, 108, 101, 97, 100, 47, 102, 97, 105, 114, 108, 101, 97, 100, 108, 97, 119, 48, 49, 46, 79, 99, 116, 101, 116, 66, 97, 99, 107, 32, 102, 97, 105,
  114, 108, 101, 97, 100, 47, 102, 97, 105, 114, 108, 101, 97, 100, 108, 97, 119, 49, 48, 46, 80, 97, 99, 107, 101, 116, 65, 108, 111, 110, 101, 32, 102, 97, 105, 114, 108, 101, 97, 100,
  47, 102, 97, 105, 114, 108, 101, 97, 100, 108, 97, 119, 48, 49, 46, 79, 99, 116, 101, 116, 79, 114, 100, 101, 114, 32, 102, 97, 105, 114, 108, 101, 97, 100, 47, 102, 97, 105, 114, 108,
  101, 97, 100, 108, 97, 119, 48, 49, 46, 79, 99, 116, 101, 116, 80, 97, 114, 116, 115, 32, 102, 97, 105, 114, 108, 101, 97, 100, 47, 102, 97, 105, 114, 108, 101, 97, 100, 108, 97, 119,
  48, 56, 46, 67, 104, 117, 110, 107, 87, 114, 105, 116, 101, 115, 32, 102, 97, 105, 114, 108, 101, 97, 100, 47, 102, 97, 105, 114, 108, 101, 97, 100, 108, 97, 119, 48, 56, 46, 67, 104,
  117, 110, 107, 82, 101, 97, 100, 115, 32, 102, 97, 105, 114, 108, 101, 97, 100, 47, 102, 97, 105, 114, 108, 101, 97, 100, 108, 97, 119, 48, 56, 46, 67, 104, 117, 110, 107, 66, 97, 99,
  107, 32, 102, 97, 105, 114, 108, 101, 97, 100, 47, 102, 97, 105, 114, 108, 101, 97, 100, 108, 97, 119, 48, 56, 46, 67, 104, 117, 110, 107, 82, 111, 119, 32, 102, 97, 105, 114, 108, 101,
  97, 100, 47, 102, 97, 105, 114, 108, 101, 97, 100, 108, 97, 119, 48, 56, 46, 67, 104, 117, 110, 107, 67, 117, 116, 115, 32, 102, 97, 105, 114, 108, 101, 97, 100, 47, 102, 97, 105, 114,
  108, 101, 97, 100, 108, 97, 119, 48, 56, 46, 67, 104, 117, 110, 107, 80, 97, 100, 115, 32, 102, 97, 105, 114, 108, 101, 97, 100, 47, 102, 97, 105, 114, 108, 101, 97, 100, 108, 97, 119,
  48, 56, 46, 67, 104, 117, 110, 107, 76, 101, 110, 103, 116, 104, 115, 32, 102, 97, 105, 114, 108, 101, 97, 100, 47, 102, 97, 105, 114, 108, 101, 97, 100, 108, 97, 119, 49, 48, 46, 80,
  97, 99, 107, 101, 116, 87, 114, 105, 116, 101, 115, 32, 102, 97, 105, 114, 108, 101, 97, 100, 47, 102, 97, 105, 114, 108, 101, 97, 100, 108, 97, 119, 49, 48, 46, 80, 97, 99, 107, 101,
  116, 82, 101, 97, 100, 115, 32, 102, 97, 105, 114, 108, 101, 97, 100, 47, 102, 97, 105, 114, 108, 101, 97, 100, 108, 97, 119, 49, 48, 46, 80, 97, 99, 107, 101, 116, 66, 97, 99, 107,
  32, 102, 97, 105, 114, 108, 101, 97, 100, 47, 102, 97, 105, 114, 108, 101, 97, 100, 108, 97, 119, 49, 48, 46, 80, 97, 99, 107, 101, 116, 66, 117, 114, 115, 116, 115, 32, 102, 97, 105,
  114, 108, 101, 97, 100, 47, 102, 97, 105, 114, 108, 101, 97, 100, 108, 97, 119, 49, 48, 46, 80, 97, 99, 107, 101, 116, 70, 111, 114, 109, 115, 32, 102, 97, 105, 114, 108, 101, 97, 100,
  47, 102, 97, 105, 114, 108, 101, 97, 100, 108, 97, 119, 49, 48, 46, 80, 97, 99, 107, 101, 116, 83, 104, 111, 114, 116]
def sp : Char := Char.ofNat 32
set_option maxRecDepth 100000 in
theorem head0 : Try.prog.initOrder = String.ofList (word1 ++ sp :: (word2 ++ sp :: (word3 ++ sp :: headRest.map Char.ofNat))) := by kernel_rfl

theorem wordsSigns_word (w r : List Char) (hw : ∀ c ∈ w, c ≠ sp) : wordsSigns (w ++ sp :: r) = w :: wordsSigns r := by
  induction w with
  | nil => rfl
  | cons c w ih =>
    have h1 := ih (fun x hx => hw x (by simp [hx]))
    have h2 : c ≠ sp := hw c (by simp)
    rw [List.cons_append, wordsSigns]
    · rw [h1]
    · exact h2
theorem nosp1 : ∀ c ∈ word1, c ≠ sp := by decide
theorem nosp2 : ∀ c ∈ word2, c ≠ sp := by decide
theorem nosp3 : ∀ c ∈ word3, c ≠ sp := by decide
/-- The first three words; what stands behind them is left unread. -/
theorem words0 : ∃ tail, wordsSigns Try.prog.initOrder.toList = word1 :: word2 :: word3 :: tail := by
  refine ⟨wordsSigns (headRest.map Char.ofNat), ?_⟩
  rw [head0, String.toList_ofList, wordsSigns_word _ _ nosp1, wordsSigns_word _ _ nosp2, wordsSigns_word _ _ nosp3]
theorem behind0 : ∃ tail, behindMainWord (wordsSigns Try.prog.initOrder.toList) = word3 :: tail := by
  obtain ⟨tail, h⟩ := words0
  exact ⟨tail, by rw [h]; kernel_rfl⟩
theorem strip0 (tail : List (List Char)) : stripLifts liftWords (word3 :: tail) = ([], word3 :: tail) := by kernel_rfl
theorem lays0 : Try.prog.laysLater = false := by kernel_rfl
theorem refl0 : Try.prog.bearsReflect = false := by kernel_rfl
theorem door0 : Try.prog.doorRows = [] := by kernel_rfl
theorem doorFits0 : Try.prog.doorFits [] = true := by
  unfold Program.doorFits
  rw [door0]
  kernel_rfl
theorem gc0 : (word3 == "gc".toList) = false := by kernel_rfl
theorem spec0 : (word3 == "spec".toList) = false := by kernel_rfl
theorem cut0 : (word3 == "cut".toList) = true := by kernel_rfl
theorem carried0 : (word3 == "carried".toList) = false := by kernel_rfl
theorem some0 : (some word3 == some "cut".toList) = true := by kernel_rfl
theorem some1 : (some word3 == some "carried".toList) = false := by kernel_rfl
/- Over a program that is a variable: else the kernel reckons the whole head at each match. -/
theorem enter_of (P : Program) (c : List Char) (rest : List (List Char)) (h : behindMainWord (wordsSigns P.initOrder.toList) = c :: rest)
    (h1 : (c == "gc".toList) = false) (h2 : (c == "spec".toList) = false) (h3 : (c == "carried".toList) = false) (h4 : stripLifts liftWords (c :: rest) = ([], c :: rest))
    (h5 : (some c == some "cut".toList) = true) (h6 : P.laysLater = false) (h7 : P.bearsReflect = false) (h8 : P.doorFits [] = true) : P.mayEnter = true := by
  unfold Program.mayEnter
  rw [h]
  simp only [h1, h2, h3, h4, List.head?_cons, h5, h6, h7, h8, List.contains_nil, Bool.or_self, Bool.false_and, Bool.not_false, Bool.or_true, Bool.and_self]
theorem make_of (P : Program) (c : List Char) (rest : List (List Char)) (h : behindMainWord (wordsSigns P.initOrder.toList) = c :: rest)
    (h1 : (c == "gc".toList) = false) (h2 : (c == "spec".toList) = false) (h3 : (c == "cut".toList) = true) : P.make = some .cut := by
  unfold Program.make
  rw [h]
  simp only [h1, h2, h3, Bool.or_self, Bool.true_or, if_true, Bool.false_eq_true, if_false]
theorem enter0 : Try.prog.mayEnter = true := by
  obtain ⟨tail, h⟩ := behind0
  exact enter_of Try.prog _ _ h gc0 spec0 carried0 (strip0 tail) some0 lays0 refl0 doorFits0
theorem lifts0 : Try.prog.headLifts = [] := by
  obtain ⟨tail, h⟩ := behind0
  unfold Program.headLifts
  rw [h]
  simp only [strip0, List.head?_cons, some0, if_true]
theorem final0 : Try.prog.liftsFinal = false := by
  obtain ⟨tail, h⟩ := behind0
  unfold Program.liftsFinal
  rw [h, lifts0]
  simp only [List.head?_cons, some1, Bool.false_and, List.contains_nil, Bool.or_self]
theorem make0 : Try.prog.make = some .cut := by
  obtain ⟨tail, h⟩ := behind0
  exact make_of Try.prog _ _ h gc0 spec0 cut0
/-- A row's closed facts, one by one, over a program that is a variable. -/
theorem closed_of {P : Program} {f : FuncId} {fn : Func} {s : ChangeSpec} {c : OpenClaim} (k1 : c.wf (OpenSpec.ofChange s) = true) (k2 : laidOutB P = true) (k3 : mapsRowed P = true)
    (k4 : fn.params.all (P.readableRec ·) = true) (k5 : namedTie P c.named s.vars = true) (k6 : (c.stops == []) = true) (k7 : (P.stops == []) = true) (k8 : (c.knobs == []) = true) (k9 : (P.stopKnobs == []) = true)
    (k10 : (c.inPlace == P.inPlace f) = true) (k11 : (c.unfollowed == P.unfollowed f) = true) (k12 : (c.recurses == P.recurses f) = true) (k13 : (c.named == P.varsNamed f) = true)
    (k14 : (c.maps == (fn.params.toList ++ s.plain.varTypes P).any (P.mapsRec ·)) = true) (k15 : (c.ifaces == (fn.params.toList ++ s.plain.varTypes P).any (P.ifacesRec ·)) = true) (k16 : (c.mapsOut == P.mapsAmong fn.resultTypes.toList) = true)
    (k17 : (c.loops == (fn.params.toList ++ s.plain.varTypes P).any (P.loopsFrom ·)) = true) (k18 : (c.wideKeys == (fn.params.toList ++ s.plain.varTypes P ++ fn.resultTypes.toList).any (P.wideKeysFrom ·)) = true)
    (k19 : s.vars.all (P.varReadable ·) = true) (k20 : fn.resultTypes.all (fun t => P.readableRec t && decide (t < P.types.size)) = true) (k21 : (c.ifacesOut == fn.resultTypes.toList.any (P.ifacesRec ·)) = true) (k22 : (c.loopsOut == fn.resultTypes.toList.any (P.loopsFrom ·)) = true)
    (k23 : (c.plainKeys == P.plainKeys) = true) (k24 : c.shortTexts.isNone = true) (k25 : P.stopsHeard = true) (k26 : P.mayEnter = true) (k27 : P.liftsFinal = false) (k27' : c.lifted = false) (k28 : P.make = some .cut) (k28' : c.make = .cut)
    (k29 : c.domain.isEmpty = true) (k29' : c.kinds = []) (k30 : (c.pinned == c.pinnedBy) = true)
    (k31 : (c.veiled == (fn.params.toList ++ s.plain.varTypes P ++ fn.resultTypes.toList).any (P.veiledRec ·)) = true) (k32 : c.veiledFits P fn.params.toList (fn.params.toList ++ s.plain.varTypes P ++ fn.resultTypes.toList) = true) : joinedFacts P f fn s c = true := by
  have e1 : (c.lifted == P.liftsFinal) = true := by rw [k27, k27']; rfl
  have e2 : (P.make == some c.make) = true := by rw [k28, k28']; decide
  unfold joinedFacts
  rw [k1, k2, k3, k4, k5, k6, k7, k8, k9, k10, k11, k12, k13, k14, k15, k16, k17, k18, k19, k20, k21, k22, k23, k24, k25, k26, e1, e2, if_pos k29, k29', k30, k31, k32]
  rfl
theorem laidOut : laidOutB Try.prog = true := by kernel_rfl
theorem mapsRowed0 : mapsRowed Try.prog = true := by kernel_rfl
theorem stops0 : (Try.prog.stops == []) = true := by kernel_rfl
theorem knobs0 : (Try.prog.stopKnobs == []) = true := by kernel_rfl
theorem heard0 : Try.prog.stopsHeard = true := by kernel_rfl

end Go.Proofs.Ythndlhflkbidiaa
