/- The closed facts on the program that every row of this seat asks, each by the kernel, once. No condition. -/
import Derived.Test.YtgmchedfgdgenaaChecked
import Derived.Test.YtgmchedfgdgenaaRows
import Derived.JoinedOf
namespace Go.Proofs.Ytgmchedfgdgenaa.Facts

theorem mayEnter : Try.prog.mayEnter = true := by kernel_rfl
theorem lifts : Try.prog.liftsFinal = false := by kernel_rfl
theorem made : (Try.prog.make == some .cut) = true := by kernel_rfl
theorem heard : Try.prog.stopsHeard = true := by kernel_rfl
theorem mapsR : mapsRowed Try.prog = true := by kernel_rfl
theorem laidOut : laidOutB Try.prog = true := by kernel_rfl
theorem stops : (Try.prog.stops == []) = true := by kernel_rfl
theorem knobs : (Try.prog.stopKnobs == []) = true := by kernel_rfl

/-- what a row of this seat asks besides -/
noncomputable def rest (fn : Func) (s : ChangeSpec) (c : OpenClaim) : Bool :=
  c.wf (OpenSpec.ofChange s) && fn.params.all (Try.prog.readableRec ·) && namedTie Try.prog c.named s.vars && (c.stops == []) && (c.knobs == []) &&
  (c.maps == (fn.params.toList ++ s.plain.varTypes Try.prog).any (Try.prog.mapsRec ·)) && (c.ifaces == (fn.params.toList ++ s.plain.varTypes Try.prog).any (Try.prog.ifacesRec ·)) && (c.mapsOut == Try.prog.mapsAmong fn.resultTypes.toList) &&
  (c.loops == (fn.params.toList ++ s.plain.varTypes Try.prog).any (Try.prog.loopsFrom ·)) && (c.wideKeys == (fn.params.toList ++ s.plain.varTypes Try.prog ++ fn.resultTypes.toList).any (Try.prog.wideKeysFrom ·)) &&
  s.vars.all (Try.prog.varReadable ·) && fn.resultTypes.all (fun t => Try.prog.readableRec t && decide (t < Try.prog.types.size)) && (c.ifacesOut == fn.resultTypes.toList.any (Try.prog.ifacesRec ·)) && (c.loopsOut == fn.resultTypes.toList.any (Try.prog.loopsFrom ·)) && (c.plainKeys == Try.prog.plainKeys) && c.shortTexts.isNone &&
  (c.kinds == (if c.domain.isEmpty then [] else fn.params.toList.map fun t => match Try.prog.underlying t with | some (.int k) => some k | _ => none)) && (c.pinned == c.pinnedBy) &&
  (c.veiled == (fn.params.toList ++ s.plain.varTypes Try.prog ++ fn.resultTypes.toList).any (Try.prog.veiledRec ·)) && c.veiledFits Try.prog fn.params.toList (fn.params.toList ++ s.plain.varTypes Try.prog ++ fn.resultTypes.toList) && (c.lifted == false) && (c.make == .cut)

set_option maxRecDepth 100000 in
theorem closed {f : FuncId} {fn : Func} {s : ChangeSpec} {c : OpenClaim} (h : rest fn s c = true) (h1 : (c.inPlace == Try.prog.inPlace f) = true) (h2 : (c.unfollowed == Try.prog.unfollowed f) = true) (h3 : (c.recurses == Try.prog.recurses f) = true) (h4 : (c.named == Try.prog.varsNamed f) = true) :
    joinedFacts Try.prog f fn s c = true := by
  unfold rest at h
  simp only [Bool.and_eq_true] at h
  obtain ⟨⟨⟨⟨⟨⟨⟨⟨⟨⟨⟨⟨⟨⟨⟨⟨⟨⟨⟨⟨⟨r1, r2⟩, r3⟩, r4⟩, r5⟩, r6⟩, r7⟩, r8⟩, r9⟩, r10⟩, r11⟩, r12⟩, r13⟩, r14⟩, r15⟩, r16⟩, r17⟩, r18⟩, r19⟩, r20⟩, r21⟩, r22⟩ := h
  have e1 : (c.lifted == Try.prog.liftsFinal) = true := by rw [lifts]; exact r21
  have e2 : (Try.prog.make == some c.make) = true := by
    have : c.make = .cut := by simpa using r22
    rw [this]; exact made
  unfold joinedFacts
  simp only [Bool.and_eq_true]
  exact ⟨⟨⟨⟨⟨⟨⟨⟨⟨⟨⟨⟨⟨⟨⟨⟨⟨⟨⟨⟨⟨⟨⟨⟨⟨⟨⟨⟨⟨⟨⟨r1, laidOut⟩, mapsR⟩, r2⟩, r3⟩, r4⟩, stops⟩, r5⟩, knobs⟩, h1⟩, h2⟩, h3⟩, h4⟩, r6⟩, r7⟩, r8⟩, r9⟩, r10⟩, r11⟩, r12⟩, r13⟩, r14⟩, r15⟩, r16⟩, heard⟩, mayEnter⟩, e1⟩, e2⟩, r17⟩, r18⟩, r19⟩, r20⟩
end Go.Proofs.Ytgmchedfgdgenaa.Facts
