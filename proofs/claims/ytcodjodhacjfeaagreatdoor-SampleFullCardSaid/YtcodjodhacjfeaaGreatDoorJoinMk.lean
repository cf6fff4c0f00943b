/-
  The closed part of a row ('joinedFacts') out of its thirty-two conjuncts: each is then a kernel fact of its own (in one piece it runs out of memory at the great program).
-/
import Derived.JoinedOf
namespace Go.JoinMk

theorem mk {P : Program} {f : FuncId} {fn : Func} {s : ChangeSpec} {c : OpenClaim}
    (c0 : c.wf (OpenSpec.ofChange s) = true) (c1 : laidOutB P = true) (c2 : mapsRowed P = true) (c3 : fn.params.all (P.readableRec ·) = true) (c4 : namedTie P c.named s.vars = true)
    (c5 : (c.stops == []) = true) (c6 : (P.stops == []) = true) (c7 : (c.knobs == []) = true) (c8 : (P.stopKnobs == []) = true)
    (c9 : (c.inPlace == P.inPlace f) = true) (c10 : (c.unfollowed == P.unfollowed f) = true) (c11 : (c.recurses == P.recurses f) = true) (c12 : (c.named == P.varsNamed f) = true)
    (c13 : (c.maps == (fn.params.toList ++ s.plain.varTypes P).any (P.mapsRec ·)) = true) (c14 : (c.ifaces == (fn.params.toList ++ s.plain.varTypes P).any (P.ifacesRec ·)) = true) (c15 : (c.mapsOut == P.mapsAmong fn.resultTypes.toList) = true)
    (c16 : (c.loops == (fn.params.toList ++ s.plain.varTypes P).any (P.loopsFrom ·)) = true) (c17 : (c.wideKeys == (fn.params.toList ++ s.plain.varTypes P ++ fn.resultTypes.toList).any (P.wideKeysFrom ·)) = true)
    (c18 : s.vars.all (P.varReadable ·) = true) (c19 : fn.resultTypes.all (fun t => P.readableRec t && decide (t < P.types.size)) = true) (c20 : (c.ifacesOut == fn.resultTypes.toList.any (P.ifacesRec ·)) = true) (c21 : (c.loopsOut == fn.resultTypes.toList.any (P.loopsFrom ·)) = true)
    (c22 : (c.plainKeys == P.plainKeys) = true) (c23 : c.shortTexts.isNone = true) (c24 : P.stopsHeard = true) (c25 : P.mayEnter = true) (c26 : (c.lifted == P.liftsFinal) = true) (c27 : (P.make == some c.make) = true)
    (c28 : (c.kinds == (if c.domain.isEmpty then [] else fn.params.toList.map fun t => match P.underlying t with | some (.int k) => some k | _ => none)) = true) (c29 : (c.pinned == c.pinnedBy) = true)
    (c30 : (c.veiled == (fn.params.toList ++ s.plain.varTypes P ++ fn.resultTypes.toList).any (P.veiledRec ·)) = true) (c31 : c.veiledFits P fn.params.toList (fn.params.toList ++ s.plain.varTypes P ++ fn.resultTypes.toList) = true) :
    joinedFacts P f fn s c = true := by
  simp only [joinedFacts, Bool.and_eq_true]
  exact ⟨⟨⟨⟨⟨⟨⟨⟨⟨⟨⟨⟨⟨⟨⟨⟨⟨⟨⟨⟨⟨⟨⟨⟨⟨⟨⟨⟨⟨⟨⟨c0, c1⟩, c2⟩, c3⟩, c4⟩, c5⟩, c6⟩, c7⟩, c8⟩, c9⟩, c10⟩, c11⟩, c12⟩, c13⟩, c14⟩, c15⟩, c16⟩, c17⟩, c18⟩, c19⟩, c20⟩, c21⟩, c22⟩, c23⟩, c24⟩, c25⟩, c26⟩, c27⟩, c28⟩, c29⟩, c30⟩, c31⟩
end Go.JoinMk
