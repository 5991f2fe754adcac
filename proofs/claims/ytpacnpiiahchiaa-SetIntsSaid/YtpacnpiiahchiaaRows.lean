/-
  No cell of these rows narrows 'for every input' (looked for: loops, veiled, ifaces, maps, wideKeys, modest, calm, conditions, laid).
  DERIVED. THE GIVEN ROWS OF THIS SEAT. 7 by the template 'for every input the law returns true; each argument reads behind the call as it read before'; 0 by the template 'total and deterministic' (their statements: YtpacnpiiahchiaaTotals.lean).
  GIVEN WITH THE SEED: the statements are not yours to turn. If you find one false, say at which input.
  Laid BY PROGRAM, IN A SANDBOX (cutbox-rows.mjs): the forced cells as the released guide's own fill.sh prints them over the translation f1f07e5e9a91fdec… (all of the seat's roots in one cut). By AI agents, Wed Nov 11 2026. No macro, syntax, notation, axiom, sorry.
-/
import Derived.Test.YtpacnpiiahchiaaChecked
import GoSem.Claim
import GoSem.ClaimJoined
import GoSem.ClaimMapViews
import Derived.JoinedTies
import Derived.KernelRfl
namespace Go.Proofs.Ytpacnpiiahchiaa
/- THE CELL 'sum', in the pinned program and in every row, IS THE sha256 OF THE DUMP (.gsa) THAT YtpacnpiiahchiaaProg.lean LOADS. Nothing in Lean hashes anything: it is a label: what it is worth is what the hold of that sum in a sandbox is worth. -/
noncomputable def Try.pinned : Pinned := { name := "ytpacnpiiahchiaa", sum := "f1f07e5e9a91fdecd0818877e81d9855999b7208e3c71fb1bb58fdc7f98d4255", checked := Try.checked }
namespace Rows
def none {H : Type} : Left H := { results := [], args := [] }

/-- 'credencelaw11.SetRises': WHATEVER THE INPUT: true; the input reads as it did. -/
def setRisesSpec : ChangeSpec := { name := "setRises", fn := fun _ => fun
  | [d] => { results := [.lit (.bool true)], args := [d] }
  | _ => none }
def setRisesRow : OpenClaim := { program := "ytpacnpiiahchiaa", sum := "f1f07e5e9a91fdecd0818877e81d9855999b7208e3c71fb1bb58fdc7f98d4255", func := "credence/credencelaw11.SetRises", spec := "setRises", unfollowed := true, recurses := true, apart := false }
def SetRisesSaid : Prop := setRisesRow.holds Try.pinned (OpenSpec.ofChange setRisesSpec)

/-- ITS FALSE NEIGHBOUR: 'it returns false'. Refute it at one input. -/
def setRisesWrong : ChangeSpec := { name := "setRises", fn := fun _ => fun
  | [d] => { results := [.lit (.bool false)], args := [d] }
  | _ => none }
def SetRisesWrongFalsely : Prop := setRisesRow.holds Try.pinned (OpenSpec.ofChange setRisesWrong)

/-- 'credencelaw11.SetLaws': WHATEVER THE INPUT: true; the input reads as it did. -/
def setLawsSpec : ChangeSpec := { name := "setLaws", fn := fun _ => fun
  | [d1, d2, d3] => { results := [.lit (.bool true)], args := [d1, d2, d3] }
  | _ => none }
def setLawsRow : OpenClaim := { program := "ytpacnpiiahchiaa", sum := "f1f07e5e9a91fdecd0818877e81d9855999b7208e3c71fb1bb58fdc7f98d4255", func := "credence/credencelaw11.SetLaws", spec := "setLaws", unfollowed := true, recurses := true, apart := false }
def SetLawsSaid : Prop := setLawsRow.holds Try.pinned (OpenSpec.ofChange setLawsSpec)

/-- ITS FALSE NEIGHBOUR: 'it returns false'. Refute it at one input. -/
def setLawsWrong : ChangeSpec := { name := "setLaws", fn := fun _ => fun
  | [d1, d2, d3] => { results := [.lit (.bool false)], args := [d1, d2, d3] }
  | _ => none }
def SetLawsWrongFalsely : Prop := setLawsRow.holds Try.pinned (OpenSpec.ofChange setLawsWrong)

/-- 'credencelaw11.SetGrows': WHATEVER THE INPUT: true; the input reads as it did. -/
def setGrowsSpec : ChangeSpec := { name := "setGrows", fn := fun _ => fun
  | [d1, d2, d3] => { results := [.lit (.bool true)], args := [d1, d2, d3] }
  | _ => none }
def setGrowsRow : OpenClaim := { program := "ytpacnpiiahchiaa", sum := "f1f07e5e9a91fdecd0818877e81d9855999b7208e3c71fb1bb58fdc7f98d4255", func := "credence/credencelaw11.SetGrows", spec := "setGrows", inPlace := ["slices.overlaps[int]"], unfollowed := true, recurses := true, apart := false }
def SetGrowsSaid : Prop := setGrowsRow.holds Try.pinned (OpenSpec.ofChange setGrowsSpec)

/-- ITS FALSE NEIGHBOUR: 'it returns false'. Refute it at one input. -/
def setGrowsWrong : ChangeSpec := { name := "setGrows", fn := fun _ => fun
  | [d1, d2, d3] => { results := [.lit (.bool false)], args := [d1, d2, d3] }
  | _ => none }
def SetGrowsWrongFalsely : Prop := setGrowsRow.holds Try.pinned (OpenSpec.ofChange setGrowsWrong)

/-- 'credencelaw11.SetEmpty': WHATEVER THE INPUT: true; the input reads as it did. -/
def setEmptySpec : ChangeSpec := { name := "setEmpty", fn := fun _ => fun
  | [] => { results := [.lit (.bool true)], args := [] }
  | _ => none }
def setEmptyRow : OpenClaim := { program := "ytpacnpiiahchiaa", sum := "f1f07e5e9a91fdecd0818877e81d9855999b7208e3c71fb1bb58fdc7f98d4255", func := "credence/credencelaw11.SetEmpty", spec := "setEmpty", inPlace := ["slices.overlaps[int]"], unfollowed := true, recurses := true, apart := false }
def SetEmptySaid : Prop := setEmptyRow.holds Try.pinned (OpenSpec.ofChange setEmptySpec)

/-- ITS FALSE NEIGHBOUR: 'it returns false'. Refute it at one input. -/
def setEmptyWrong : ChangeSpec := { name := "setEmpty", fn := fun _ => fun
  | [] => { results := [.lit (.bool false)], args := [] }
  | _ => none }
def SetEmptyWrongFalsely : Prop := setEmptyRow.holds Try.pinned (OpenSpec.ofChange setEmptyWrong)

/-- 'credencelaw11.SetTexts': WHATEVER THE INPUT: true; the input reads as it did. -/
def setTextsSpec : ChangeSpec := { name := "setTexts", fn := fun _ => fun
  | [d1, d2] => { results := [.lit (.bool true)], args := [d1, d2] }
  | _ => none }
def setTextsRow : OpenClaim := { program := "ytpacnpiiahchiaa", sum := "f1f07e5e9a91fdecd0818877e81d9855999b7208e3c71fb1bb58fdc7f98d4255", func := "credence/credencelaw11.SetTexts", spec := "setTexts", inPlace := ["slices.overlaps[string]"], unfollowed := true, recurses := true, apart := false }
def SetTextsSaid : Prop := setTextsRow.holds Try.pinned (OpenSpec.ofChange setTextsSpec)

/-- ITS FALSE NEIGHBOUR: 'it returns false'. Refute it at one input. -/
def setTextsWrong : ChangeSpec := { name := "setTexts", fn := fun _ => fun
  | [d1, d2] => { results := [.lit (.bool false)], args := [d1, d2] }
  | _ => none }
def SetTextsWrongFalsely : Prop := setTextsRow.holds Try.pinned (OpenSpec.ofChange setTextsWrong)

/-- 'credencelaw11.SetInts': WHATEVER THE INPUT: true; the input reads as it did. -/
def setIntsSpec : ChangeSpec := { name := "setInts", fn := fun _ => fun
  | [d1, d2, d3] => { results := [.lit (.bool true)], args := [d1, d2, d3] }
  | _ => none }
def setIntsRow : OpenClaim := { program := "ytpacnpiiahchiaa", sum := "f1f07e5e9a91fdecd0818877e81d9855999b7208e3c71fb1bb58fdc7f98d4255", func := "credence/credencelaw11.SetInts", spec := "setInts", inPlace := ["slices.overlaps[int]"], unfollowed := true, recurses := true, apart := false }
def SetIntsSaid : Prop := setIntsRow.holds Try.pinned (OpenSpec.ofChange setIntsSpec)

/-- ITS FALSE NEIGHBOUR: 'it returns false'. Refute it at one input. -/
def setIntsWrong : ChangeSpec := { name := "setInts", fn := fun _ => fun
  | [d1, d2, d3] => { results := [.lit (.bool false)], args := [d1, d2, d3] }
  | _ => none }
def SetIntsWrongFalsely : Prop := setIntsRow.holds Try.pinned (OpenSpec.ofChange setIntsWrong)

/-- 'credencelaw11.SetFloats': WHATEVER THE INPUT: true; the input reads as it did. -/
def setFloatsSpec : ChangeSpec := { name := "setFloats", fn := fun _ => fun
  | [d1, d2, d3] => { results := [.lit (.bool true)], args := [d1, d2, d3] }
  | _ => none }
def setFloatsRow : OpenClaim := { program := "ytpacnpiiahchiaa", sum := "f1f07e5e9a91fdecd0818877e81d9855999b7208e3c71fb1bb58fdc7f98d4255", func := "credence/credencelaw11.SetFloats", spec := "setFloats", inPlace := ["math.Float64bits", "slices.overlaps[float64]"], unfollowed := true, recurses := true, apart := false }
def SetFloatsSaid : Prop := setFloatsRow.holds Try.pinned (OpenSpec.ofChange setFloatsSpec)

/-- ITS FALSE NEIGHBOUR: 'it returns false'. Refute it at one input. -/
def setFloatsWrong : ChangeSpec := { name := "setFloats", fn := fun _ => fun
  | [d1, d2, d3] => { results := [.lit (.bool false)], args := [d1, d2, d3] }
  | _ => none }
def SetFloatsWrongFalsely : Prop := setFloatsRow.holds Try.pinned (OpenSpec.ofChange setFloatsWrong)

/- THE SECOND FORM. 'bulk': how many values and letters a reading holds, each counted each time it is reached (what is shared counts as often as it is met; a slice's spare places count too). A statement '..UptoSaid' is the law's where the arguments, and the package variables that the reading takes, are together of bulk at most 1048576: NARROWER than '..Said'. Prove '..Said' where nothing that the law and all that it calls make is longer than what came in: it says more and counts as full. Else prove '..UptoSaid'. A law counts once. -/
mutual
def uptoBulk {H : Type} : DataW H → Nat
  | .lit (.string bytes) => bytes.length + 1
  | .lit _ => 1
  | .nil => 1
  | .ptr d => uptoBulk d + 1
  | .slice elems spare => uptoBulkAll elems + uptoBulkAll spare + 1
  | .agg parts => uptoBulkAll parts + 1
  | .iface _ d => uptoBulk d + 1
  | .map entries => uptoBulkEntries entries + 1
  | .held _ => 1
def uptoBulkAll {H : Type} : List (DataW H) → Nat
  | [] => 0
  | d :: r => uptoBulk d + uptoBulkAll r
def uptoBulkEntries {H : Type} : List (Lit × DataW H) → Nat
  | [] => 0
  | x :: r => uptoBulkEntry x + uptoBulkEntries r
def uptoBulkEntry {H : Type} : Lit × DataW H → Nat
  | (.string bytes, d) => bytes.length + uptoBulk d + 1
  | (_, d) => uptoBulk d + 1
 end
def uptoSmall : (H : Type) → List (DataW H) → Bool := fun _ ds => decide (uptoBulkAll ds ≤ 1048576)
def OpenSpec.upto (s : _root_.Go.ChangeSpec) : _root_.Go.OpenSpec := { _root_.Go.OpenSpec.ofChange s with cond := some uptoSmall }

/-- 'credencelaw11.SetRises', WHERE WHAT IT READS IS OF BULK AT MOST 1048576: true; the input reads as it did. -/
def setRisesUptoRow : OpenClaim := { program := "ytpacnpiiahchiaa", sum := "f1f07e5e9a91fdecd0818877e81d9855999b7208e3c71fb1bb58fdc7f98d4255", func := "credence/credencelaw11.SetRises", spec := "setRises", unfollowed := true, recurses := true, apart := false, narrowed := true }
def SetRisesUptoSaid : Prop := setRisesUptoRow.holds Try.pinned (OpenSpec.upto setRisesSpec)

/-- 'credencelaw11.SetLaws', WHERE WHAT IT READS IS OF BULK AT MOST 1048576: true; the input reads as it did. -/
def setLawsUptoRow : OpenClaim := { program := "ytpacnpiiahchiaa", sum := "f1f07e5e9a91fdecd0818877e81d9855999b7208e3c71fb1bb58fdc7f98d4255", func := "credence/credencelaw11.SetLaws", spec := "setLaws", unfollowed := true, recurses := true, apart := false, narrowed := true }
def SetLawsUptoSaid : Prop := setLawsUptoRow.holds Try.pinned (OpenSpec.upto setLawsSpec)

/-- 'credencelaw11.SetGrows', WHERE WHAT IT READS IS OF BULK AT MOST 1048576: true; the input reads as it did. -/
def setGrowsUptoRow : OpenClaim := { program := "ytpacnpiiahchiaa", sum := "f1f07e5e9a91fdecd0818877e81d9855999b7208e3c71fb1bb58fdc7f98d4255", func := "credence/credencelaw11.SetGrows", spec := "setGrows", inPlace := ["slices.overlaps[int]"], unfollowed := true, recurses := true, apart := false, narrowed := true }
def SetGrowsUptoSaid : Prop := setGrowsUptoRow.holds Try.pinned (OpenSpec.upto setGrowsSpec)

/-- 'credencelaw11.SetEmpty', WHERE WHAT IT READS IS OF BULK AT MOST 1048576: true; the input reads as it did. -/
def setEmptyUptoRow : OpenClaim := { program := "ytpacnpiiahchiaa", sum := "f1f07e5e9a91fdecd0818877e81d9855999b7208e3c71fb1bb58fdc7f98d4255", func := "credence/credencelaw11.SetEmpty", spec := "setEmpty", inPlace := ["slices.overlaps[int]"], unfollowed := true, recurses := true, apart := false, narrowed := true }
def SetEmptyUptoSaid : Prop := setEmptyUptoRow.holds Try.pinned (OpenSpec.upto setEmptySpec)

/-- 'credencelaw11.SetTexts', WHERE WHAT IT READS IS OF BULK AT MOST 1048576: true; the input reads as it did. -/
def setTextsUptoRow : OpenClaim := { program := "ytpacnpiiahchiaa", sum := "f1f07e5e9a91fdecd0818877e81d9855999b7208e3c71fb1bb58fdc7f98d4255", func := "credence/credencelaw11.SetTexts", spec := "setTexts", inPlace := ["slices.overlaps[string]"], unfollowed := true, recurses := true, apart := false, narrowed := true }
def SetTextsUptoSaid : Prop := setTextsUptoRow.holds Try.pinned (OpenSpec.upto setTextsSpec)

/-- 'credencelaw11.SetInts', WHERE WHAT IT READS IS OF BULK AT MOST 1048576: true; the input reads as it did. -/
def setIntsUptoRow : OpenClaim := { program := "ytpacnpiiahchiaa", sum := "f1f07e5e9a91fdecd0818877e81d9855999b7208e3c71fb1bb58fdc7f98d4255", func := "credence/credencelaw11.SetInts", spec := "setInts", inPlace := ["slices.overlaps[int]"], unfollowed := true, recurses := true, apart := false, narrowed := true }
def SetIntsUptoSaid : Prop := setIntsUptoRow.holds Try.pinned (OpenSpec.upto setIntsSpec)

/-- 'credencelaw11.SetFloats', WHERE WHAT IT READS IS OF BULK AT MOST 1048576: true; the input reads as it did. -/
def setFloatsUptoRow : OpenClaim := { program := "ytpacnpiiahchiaa", sum := "f1f07e5e9a91fdecd0818877e81d9855999b7208e3c71fb1bb58fdc7f98d4255", func := "credence/credencelaw11.SetFloats", spec := "setFloats", inPlace := ["math.Float64bits", "slices.overlaps[float64]"], unfollowed := true, recurses := true, apart := false, narrowed := true }
def SetFloatsUptoSaid : Prop := setFloatsUptoRow.holds Try.pinned (OpenSpec.upto setFloatsSpec)

end Rows
end Go.Proofs.Ytpacnpiiahchiaa
