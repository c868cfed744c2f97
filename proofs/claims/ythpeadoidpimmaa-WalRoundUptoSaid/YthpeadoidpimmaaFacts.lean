/- The closed facts that every row of this seat asks of the program, each proved once. No condition. -/
import Derived.Test.YthpeadoidpimmaaRows
import Derived.JoinedOf
import Derived.JoinedCond
import Derived.KernelRfl
namespace Go.Proofs.Ythpeadoidpimmaa
open Go

theorem wordsSigns_app (w r : List Char) (h : ∀ c ∈ w, c ≠ ' ') : wordsSigns (w ++ ' ' :: r) = w :: wordsSigns r := by
  induction w with
  | nil => simp [wordsSigns]
  | cons c w ih =>
    have hc : c ≠ ' ' := h c (by simp)
    have ih' := ih (fun x hx => h x (by simp [hx]))
    rw [List.cons_append, wordsSigns]
    · rw [ih']
    · exact fun hcc => hc hcc

def noSp (w : List Char) : Bool := w.all fun c => !(c == ' ')
theorem noSp_spec {w : List Char} (h : noSp w = true) : ∀ c ∈ w, c ≠ ' ' := by
  intro c hc
  have := List.all_eq_true.1 h c hc
  simpa using this

theorem splitAt (l : List Char) (n : Nat) (h : l[n]? = some ' ') : l = l.take n ++ ' ' :: l.drop (n + 1) := by
  have hlt : n < l.length := (List.getElem?_eq_some_iff.1 h).1
  have hv : l[n] = ' ' := (List.getElem?_eq_some_iff.1 h).2
  conv => lhs; rw [← List.take_append_drop n l]
  rw [List.drop_eq_getElem_cons hlt, hv]

/-- The head's words: "harness", a sum, "cut", and so on. -/
theorem words : ∃ rest, behindMainWord (wordsSigns Try.prog.initOrder.toList) = ['c', 'u', 't'] :: rest := by
  have h1 : Try.prog.initOrder.toList[7]? = some ' ' := by kernel_rfl
  have h2 : noSp (Try.prog.initOrder.toList.take 7) = true := by kernel_rfl
  have h3 : (Try.prog.initOrder.toList.drop 8)[64]? = some ' ' := by kernel_rfl
  have h4 : noSp ((Try.prog.initOrder.toList.drop 8).take 64) = true := by kernel_rfl
  have h5 : ((Try.prog.initOrder.toList.drop 8).drop 65)[3]? = some ' ' := by kernel_rfl
  have h6 : noSp (((Try.prog.initOrder.toList.drop 8).drop 65).take 3) = true := by kernel_rfl
  have h7 : ((Try.prog.initOrder.toList.drop 8).drop 65).take 3 = ['c', 'u', 't'] := by kernel_rfl
  have h8 : (Try.prog.initOrder.toList.take 7 == "harness".toList) = true := by kernel_rfl
  have h9 : isSumSigns ((Try.prog.initOrder.toList.drop 8).take 64) = true := by kernel_rfl
  refine ⟨wordsSigns (((Try.prog.initOrder.toList.drop 8).drop 65).drop 4), ?_⟩
  generalize Try.prog.initOrder.toList = l at *
  have s1 : wordsSigns l = l.take 7 :: wordsSigns (l.drop 8) := by
    have := wordsSigns_app (l.take 7) (l.drop (7 + 1)) (noSp_spec h2)
    rw [← splitAt l 7 h1] at this
    exact this
  have s2 : wordsSigns (l.drop 8) = (l.drop 8).take 64 :: wordsSigns ((l.drop 8).drop 65) := by
    have := wordsSigns_app ((l.drop 8).take 64) ((l.drop 8).drop (64 + 1)) (noSp_spec h4)
    rw [← splitAt (l.drop 8) 64 h3] at this
    exact this
  have s3 : wordsSigns ((l.drop 8).drop 65) = ['c', 'u', 't'] :: wordsSigns (((l.drop 8).drop 65).drop 4) := by
    have := wordsSigns_app (((l.drop 8).drop 65).take 3) (((l.drop 8).drop 65).drop (3 + 1)) (noSp_spec h6)
    rw [← splitAt ((l.drop 8).drop 65) 3 h5, h7] at this
    exact this
  rw [s1, s2, s3]
  simp only [behindMainWord, h8, h9, Bool.true_or, Bool.and_self, if_true]

theorem lays : Try.prog.laysLater = false := by kernel_rfl
theorem reflects : Try.prog.bearsReflect = false := by kernel_rfl
theorem fits : Try.prog.doorFits [] = true := by kernel_rfl

theorem strip (rest : List (List Char)) : stripLifts liftWords (['c', 'u', 't'] :: rest) = ([], ['c', 'u', 't'] :: rest) := by kernel_rfl

theorem mayEnter : Try.prog.mayEnter = true := by
  obtain ⟨rest, h⟩ := words
  unfold Program.mayEnter
  rw [h]
  simp only [strip, lays, reflects, fits]
  kernel_rfl

theorem lifts : Try.prog.liftsFinal = false := by
  obtain ⟨rest, h⟩ := words
  unfold Program.liftsFinal Program.headLifts
  simp only [h, strip]
  kernel_rfl

theorem makes : Try.prog.make = some .cut := by
  obtain ⟨rest, h⟩ := words
  unfold Program.make
  rw [h]
  kernel_rfl

theorem laidOut : laidOutB Try.prog = true := by kernel_rfl
theorem mapsRow : mapsRowed Try.prog = true := by kernel_rfl
theorem stops : Try.prog.stops = [] := by
  have h : (Try.prog.stops == []) = true := by kernel_rfl
  simpa using h
theorem knobs : Try.prog.stopKnobs = [] := by
  have h : (Try.prog.stopKnobs == []) = true := by kernel_rfl
  simpa using h
theorem plainK : Try.prog.plainKeys = true := by kernel_rfl
theorem heard : Try.prog.stopsHeard = true := by kernel_rfl

/-- What is left to ask of a row. -/
def lawFacts (P : Program) (f : FuncId) (fn : Func) (s : ChangeSpec) (c : OpenClaim) : Bool :=
  c.wf (OpenSpec.ofChange s) && fn.params.all (P.readableRec ·) && namedTie P c.named s.vars && (c.stops == []) && (c.knobs == []) &&
  (c.inPlace == P.inPlace f) && (c.unfollowed == P.unfollowed f) && (c.recurses == P.recurses f) && (c.named == P.varsNamed f) &&
  (c.maps == (fn.params.toList ++ s.plain.varTypes P).any (P.mapsRec ·)) && (c.ifaces == (fn.params.toList ++ s.plain.varTypes P).any (P.ifacesRec ·)) && (c.mapsOut == P.mapsAmong fn.resultTypes.toList) &&
  (c.loops == (fn.params.toList ++ s.plain.varTypes P).any (P.loopsFrom ·)) && (c.wideKeys == (fn.params.toList ++ s.plain.varTypes P ++ fn.resultTypes.toList).any (P.wideKeysFrom ·)) &&
  s.vars.all (P.varReadable ·) && fn.resultTypes.all (fun t => P.readableRec t && decide (t < P.types.size)) && (c.ifacesOut == fn.resultTypes.toList.any (P.ifacesRec ·)) && (c.loopsOut == fn.resultTypes.toList.any (P.loopsFrom ·)) &&
  (c.plainKeys == true) && c.shortTexts.isNone && (c.lifted == false) && (some c.make == some Make.cut) &&
  (c.kinds == (if c.domain.isEmpty then [] else fn.params.toList.map fun t => match P.underlying t with | some (.int k) => some k | _ => none)) && (c.pinned == c.pinnedBy) &&
  (c.veiled == (fn.params.toList ++ s.plain.varTypes P ++ fn.resultTypes.toList).any (P.veiledRec ·)) && c.veiledFits P fn.params.toList (fn.params.toList ++ s.plain.varTypes P ++ fn.resultTypes.toList)

theorem joined_of {P : Program} {f : FuncId} {fn : Func} {s : ChangeSpec} {c : OpenClaim} (laidOut : laidOutB P = true) (mapsRow : mapsRowed P = true) (stops : P.stops = [])
    (knobs : P.stopKnobs = []) (plainK : P.plainKeys = true) (heard : P.stopsHeard = true) (mayEnter : P.mayEnter = true) (lifts : P.liftsFinal = false) (makes : P.make = some .cut)
    (h : lawFacts P f fn s c = true) : joinedFacts P f fn s c = true := by
  unfold lawFacts at h
  unfold joinedFacts
  rw [stops, knobs, plainK, lifts, makes, laidOut, mapsRow, heard, mayEnter]
  have e : (some Make.cut == some c.make) = (some c.make == some Make.cut) := by
    cases c.make <;> rfl
  rw [e]
  simp only [Bool.and_eq_true] at h ⊢
  obtain ⟨⟨⟨⟨⟨⟨⟨⟨⟨⟨⟨⟨⟨⟨⟨⟨⟨⟨⟨⟨⟨⟨⟨⟨⟨a1, a2⟩, a3⟩, a4⟩, a5⟩, a6⟩, a7⟩, a8⟩, a9⟩, a10⟩, a11⟩, a12⟩, a13⟩, a14⟩, a15⟩, a16⟩, a17⟩, a18⟩, a19⟩, a20⟩, a21⟩, a22⟩, a23⟩, a24⟩, a25⟩, a26⟩ := h
  exact ⟨⟨⟨⟨⟨⟨⟨⟨⟨⟨⟨⟨⟨⟨⟨⟨⟨⟨⟨⟨⟨⟨⟨⟨⟨⟨⟨⟨⟨⟨⟨a1, by trivial⟩, by trivial⟩, a2⟩, a3⟩, a4⟩, rfl⟩, a5⟩, rfl⟩, a6⟩, a7⟩, a8⟩, a9⟩, a10⟩, a11⟩, a12⟩, a13⟩, a14⟩, a15⟩, a16⟩, a17⟩, a18⟩, a19⟩, a20⟩, by trivial⟩, by trivial⟩, a21⟩, a22⟩, a23⟩, a24⟩, a25⟩, a26⟩

theorem joined {f : FuncId} {fn : Func} {s : ChangeSpec} {c : OpenClaim} (h : lawFacts Try.prog f fn s c = true) : joinedFacts Try.prog f fn s c = true :=
  joined_of laidOut mapsRow stops knobs plainK heard mayEnter lifts makes h
end Go.Proofs.Ythpeadoidpimmaa
