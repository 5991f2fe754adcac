/- The closed facts on the program that every row of this seat asks, each by the kernel, once. No condition. -/
import Derived.Test.YtgbmnlmnhbkdbaaGreatChecked
import Derived.Test.YtgbmnlmnhbkdbaaGreatRows
import Derived.JoinedOf
set_option linter.unusedVariables false
set_option linter.unusedSimpArgs false
namespace Go.Proofs.YtgbmnlmnhbkdbaaGreat.Facts

theorem mayEnter:Tryz.prog.mayEnter=true:=by kernel_rfl
theorem lifts:Tryz.prog.liftsFinal=false:=by kernel_rfl
theorem made:(Tryz.prog.make == some .cut)=true:=by kernel_rfl
theorem heard:Tryz.prog.stopsHeard=true:=by kernel_rfl
theorem mapsR:mapsRowed Tryz.prog=true:=by kernel_rfl
theorem laidOut:laidOutB Tryz.prog=true:=by kernel_rfl
theorem stops:(Tryz.prog.stops == [])=true:=by kernel_rfl
theorem knobs:(Tryz.prog.stopKnobs == [])=true:=by kernel_rfl

noncomputable def rest (fn:Func) (s:ChangeSpec) (c:OpenClaim):Bool:=
 c.wf (OpenSpec.ofChange s) && fn.params.all (Tryz.prog.readableRec ·) && namedTie Tryz.prog c.named s.vars && (c.stops == []) && (c.knobs == []) &&
 (c.maps == (fn.params.toList ++ s.plain.varTypes Tryz.prog).any (Tryz.prog.mapsRec ·)) && (c.ifaces == (fn.params.toList ++ s.plain.varTypes Tryz.prog).any (Tryz.prog.ifacesRec ·)) && (c.mapsOut == Tryz.prog.mapsAmong fn.resultTypes.toList) &&
 (c.loops == (fn.params.toList ++ s.plain.varTypes Tryz.prog).any (Tryz.prog.loopsFrom ·)) && (c.wideKeys == (fn.params.toList ++ s.plain.varTypes Tryz.prog ++ fn.resultTypes.toList).any (Tryz.prog.wideKeysFrom ·)) &&
 s.vars.all (Tryz.prog.varReadable ·) && fn.resultTypes.all (fun t=>Tryz.prog.readableRec t && decide (t < Tryz.prog.types.size)) && (c.ifacesOut == fn.resultTypes.toList.any (Tryz.prog.ifacesRec ·)) && (c.loopsOut == fn.resultTypes.toList.any (Tryz.prog.loopsFrom ·)) && (c.plainKeys == Tryz.prog.plainKeys) && c.shortTexts.isNone &&
 (c.kinds == (if c.domain.isEmpty then [] else fn.params.toList.map fun t=>match Tryz.prog.underlying t with | some (.int k)=>some k | _=>none)) && (c.pinned == c.pinnedBy) &&
 (c.veiled == (fn.params.toList ++ s.plain.varTypes Tryz.prog ++ fn.resultTypes.toList).any (Tryz.prog.veiledRec ·)) && c.veiledFits Tryz.prog fn.params.toList (fn.params.toList ++ s.plain.varTypes Tryz.prog ++ fn.resultTypes.toList) && (c.lifted == false) && (c.make == .cut)

set_option maxRecDepth 100000 in
theorem closed {f:FuncId} {fn:Func} {s:ChangeSpec} {c:OpenClaim} (h:rest fn s c=true) (h1:(c.inPlace == Tryz.prog.inPlace f)=true) (h2:(c.unfollowed == Tryz.prog.unfollowed f)=true) (h3:(c.recurses == Tryz.prog.recurses f)=true) (h4:(c.named == Tryz.prog.varsNamed f)=true) :
 joinedFacts Tryz.prog f fn s c=true:=by
 unfold rest at h
 simp only [Bool.and_eq_true] at h
 obtain ⟨⟨⟨⟨⟨⟨⟨⟨⟨⟨⟨⟨⟨⟨⟨⟨⟨⟨⟨⟨⟨r1,r2⟩,r3⟩,r4⟩,r5⟩,r6⟩,r7⟩,r8⟩,r9⟩,r10⟩,r11⟩,r12⟩,r13⟩,r14⟩,r15⟩,r16⟩,r17⟩,r18⟩,r19⟩,r20⟩,r21⟩,r22⟩:=h
 have e1:(c.lifted == Tryz.prog.liftsFinal)=true:=by rw [lifts];exact r21
 have e2:(Tryz.prog.make == some c.make)=true:=by
  have:c.make=.cut:=by simpa using r22
  rw [this];exact made
 unfold joinedFacts
 simp only [Bool.and_eq_true]
 exact ⟨⟨⟨⟨⟨⟨⟨⟨⟨⟨⟨⟨⟨⟨⟨⟨⟨⟨⟨⟨⟨⟨⟨⟨⟨⟨⟨⟨⟨⟨⟨r1,laidOut⟩,mapsR⟩,r2⟩,r3⟩,r4⟩,stops⟩,r5⟩,knobs⟩,h1⟩,h2⟩,h3⟩,h4⟩,r6⟩,r7⟩,r8⟩,r9⟩,r10⟩,r11⟩,r12⟩,r13⟩,r14⟩,r15⟩,r16⟩,heard⟩,mayEnter⟩,e1⟩,e2⟩,r17⟩,r18⟩,r19⟩,r20⟩
end Go.Proofs.YtgbmnlmnhbkdbaaGreat.Facts
