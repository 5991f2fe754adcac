/-
  No cell of these rows narrows 'for every input' (looked for: loops, veiled, ifaces, maps, wideKeys, modest, calm, conditions, laid).
  DERIVED. THE GIVEN ROWS OF THIS SEAT. 9 by the template 'for every input the law returns true; each argument reads behind the call as it read before'; 0 by the template 'total and deterministic' (their statements: YtaibdlnolpbpiaaTotals.lean).
  GIVEN WITH THE SEED: the statements are not yours to turn. If you find one false, say at which input.
  Laid BY PROGRAM, IN A SANDBOX (cutbox-rows.mjs): the forced cells as the released guide's own fill.sh prints them over the translation 44f4af577a266a84… (all of the seat's roots in one cut). By AI agents, Wed Nov 11 2026. No macro, syntax, notation, axiom, sorry.
-/
import Derived.Test.YtaibdlnolpbpiaaChecked
import GoSem.Claim
import GoSem.ClaimJoined
import GoSem.ClaimMapViews
import Derived.JoinedTies
import Derived.KernelRfl
namespace Go.Proofs.Ytaibdlnolpbpiaa
/- THE CELL 'sum', in the pinned program and in every row, IS THE sha256 OF THE DUMP (.gsa) THAT YtaibdlnolpbpiaaProg.lean LOADS. Nothing in Lean hashes anything: it is a label: what it is worth is what the hold of that sum in a sandbox is worth. -/
noncomputable def Try.pinned : Pinned := { name := "ytaibdlnolpbpiaa", sum := "44f4af577a266a84f10dd74596555e0416b33d7a7281299afdb5c4293ce76c65", checked := Try.checked }
namespace Rows
def none {H : Type} : Left H := { results := [], args := [] }

/-- 'credencelaw16.SepReach': WHATEVER THE INPUT: true; the input reads as it did. -/
def sepReachSpec : ChangeSpec := { name := "sepReach", fn := fun _ => fun
  | [d1, d2, d3] => { results := [.lit (.bool true)], args := [d1, d2, d3] }
  | _ => none }
def sepReachRow : OpenClaim := { program := "ytaibdlnolpbpiaa", sum := "44f4af577a266a84f10dd74596555e0416b33d7a7281299afdb5c4293ce76c65", func := "credence/credencelaw16.SepReach", spec := "sepReach", unfollowed := true, recurses := true, plainKeys := false, apart := false }
def SepReachSaid : Prop := sepReachRow.holds Try.pinned (OpenSpec.ofChange sepReachSpec)

/-- ITS FALSE NEIGHBOUR: 'it returns false'. Refute it at one input. -/
def sepReachWrong : ChangeSpec := { name := "sepReach", fn := fun _ => fun
  | [d1, d2, d3] => { results := [.lit (.bool false)], args := [d1, d2, d3] }
  | _ => none }
def SepReachWrongFalsely : Prop := sepReachRow.holds Try.pinned (OpenSpec.ofChange sepReachWrong)

/-- 'credencelaw16.SepTrail': WHATEVER THE INPUT: true; the input reads as it did. -/
def sepTrailSpec : ChangeSpec := { name := "sepTrail", fn := fun _ => fun
  | [d1, d2, d3, d4] => { results := [.lit (.bool true)], args := [d1, d2, d3, d4] }
  | _ => none }
def sepTrailRow : OpenClaim := { program := "ytaibdlnolpbpiaa", sum := "44f4af577a266a84f10dd74596555e0416b33d7a7281299afdb5c4293ce76c65", func := "credence/credencelaw16.SepTrail", spec := "sepTrail", unfollowed := true, recurses := true, plainKeys := false, apart := false }
def SepTrailSaid : Prop := sepTrailRow.holds Try.pinned (OpenSpec.ofChange sepTrailSpec)

/-- ITS FALSE NEIGHBOUR: 'it returns false'. Refute it at one input. -/
def sepTrailWrong : ChangeSpec := { name := "sepTrail", fn := fun _ => fun
  | [d1, d2, d3, d4] => { results := [.lit (.bool false)], args := [d1, d2, d3, d4] }
  | _ => none }
def SepTrailWrongFalsely : Prop := sepTrailRow.holds Try.pinned (OpenSpec.ofChange sepTrailWrong)

/-- 'credencelaw16.SepApart': WHATEVER THE INPUT: true; the input reads as it did. -/
def sepApartSpec : ChangeSpec := { name := "sepApart", fn := fun _ => fun
  | [d1, d2, d3, d4] => { results := [.lit (.bool true)], args := [d1, d2, d3, d4] }
  | _ => none }
def sepApartRow : OpenClaim := { program := "ytaibdlnolpbpiaa", sum := "44f4af577a266a84f10dd74596555e0416b33d7a7281299afdb5c4293ce76c65", func := "credence/credencelaw16.SepApart", spec := "sepApart", unfollowed := true, recurses := true, plainKeys := false, apart := false }
def SepApartSaid : Prop := sepApartRow.holds Try.pinned (OpenSpec.ofChange sepApartSpec)

/-- ITS FALSE NEIGHBOUR: 'it returns false'. Refute it at one input. -/
def sepApartWrong : ChangeSpec := { name := "sepApart", fn := fun _ => fun
  | [d1, d2, d3, d4] => { results := [.lit (.bool false)], args := [d1, d2, d3, d4] }
  | _ => none }
def SepApartWrongFalsely : Prop := sepApartRow.holds Try.pinned (OpenSpec.ofChange sepApartWrong)

/-- 'credencelaw16.SepBlanket': WHATEVER THE INPUT: true; the input reads as it did. -/
def sepBlanketSpec : ChangeSpec := { name := "sepBlanket", fn := fun _ => fun
  | [d1, d2] => { results := [.lit (.bool true)], args := [d1, d2] }
  | _ => none }
def sepBlanketRow : OpenClaim := { program := "ytaibdlnolpbpiaa", sum := "44f4af577a266a84f10dd74596555e0416b33d7a7281299afdb5c4293ce76c65", func := "credence/credencelaw16.SepBlanket", spec := "sepBlanket", inPlace := ["slices.overlaps[int]"], unfollowed := true, recurses := true, plainKeys := false, apart := false }
def SepBlanketSaid : Prop := sepBlanketRow.holds Try.pinned (OpenSpec.ofChange sepBlanketSpec)

/-- ITS FALSE NEIGHBOUR: 'it returns false'. Refute it at one input. -/
def sepBlanketWrong : ChangeSpec := { name := "sepBlanket", fn := fun _ => fun
  | [d1, d2] => { results := [.lit (.bool false)], args := [d1, d2] }
  | _ => none }
def SepBlanketWrongFalsely : Prop := sepBlanketRow.holds Try.pinned (OpenSpec.ofChange sepBlanketWrong)

/-- 'credencelaw16.SepNames': WHATEVER THE INPUT: true; the input reads as it did. -/
def sepNamesSpec : ChangeSpec := { name := "sepNames", fn := fun _ => fun
  | [] => { results := [.lit (.bool true)], args := [] }
  | _ => none }
def sepNamesRow : OpenClaim := { program := "ytaibdlnolpbpiaa", sum := "44f4af577a266a84f10dd74596555e0416b33d7a7281299afdb5c4293ce76c65", func := "credence/credencelaw16.SepNames", spec := "sepNames", inPlace := ["slices.overlaps[int]"], unfollowed := true, recurses := true, plainKeys := false, apart := false }
def SepNamesSaid : Prop := sepNamesRow.holds Try.pinned (OpenSpec.ofChange sepNamesSpec)

/-- ITS FALSE NEIGHBOUR: 'it returns false'. Refute it at one input. -/
def sepNamesWrong : ChangeSpec := { name := "sepNames", fn := fun _ => fun
  | [] => { results := [.lit (.bool false)], args := [] }
  | _ => none }
def SepNamesWrongFalsely : Prop := sepNamesRow.holds Try.pinned (OpenSpec.ofChange sepNamesWrong)

/-- 'credencelaw16.SepMoral': WHATEVER THE INPUT: true; the input reads as it did. -/
def sepMoralSpec : ChangeSpec := { name := "sepMoral", fn := fun _ => fun
  | [d1, d2, d3, d4] => { results := [.lit (.bool true)], args := [d1, d2, d3, d4] }
  | _ => none }
def sepMoralRow : OpenClaim := { program := "ytaibdlnolpbpiaa", sum := "44f4af577a266a84f10dd74596555e0416b33d7a7281299afdb5c4293ce76c65", func := "credence/credencelaw16.SepMoral", spec := "sepMoral", inPlace := ["slices.overlaps[int]"], unfollowed := true, recurses := true, plainKeys := false, apart := false }
def SepMoralSaid : Prop := sepMoralRow.holds Try.pinned (OpenSpec.ofChange sepMoralSpec)

/-- ITS FALSE NEIGHBOUR: 'it returns false'. Refute it at one input. -/
def sepMoralWrong : ChangeSpec := { name := "sepMoral", fn := fun _ => fun
  | [d1, d2, d3, d4] => { results := [.lit (.bool false)], args := [d1, d2, d3, d4] }
  | _ => none }
def SepMoralWrongFalsely : Prop := sepMoralRow.holds Try.pinned (OpenSpec.ofChange sepMoralWrong)

/-- 'credencelaw16.SepEven': WHATEVER THE INPUT: true; the input reads as it did. -/
def sepEvenSpec : ChangeSpec := { name := "sepEven", fn := fun _ => fun
  | [d1, d2, d3, d4] => { results := [.lit (.bool true)], args := [d1, d2, d3, d4] }
  | _ => none }
def sepEvenRow : OpenClaim := { program := "ytaibdlnolpbpiaa", sum := "44f4af577a266a84f10dd74596555e0416b33d7a7281299afdb5c4293ce76c65", func := "credence/credencelaw16.SepEven", spec := "sepEven", inPlace := ["slices.overlaps[int]"], unfollowed := true, recurses := true, plainKeys := false, apart := false }
def SepEvenSaid : Prop := sepEvenRow.holds Try.pinned (OpenSpec.ofChange sepEvenSpec)

/-- ITS FALSE NEIGHBOUR: 'it returns false'. Refute it at one input. -/
def sepEvenWrong : ChangeSpec := { name := "sepEven", fn := fun _ => fun
  | [d1, d2, d3, d4] => { results := [.lit (.bool false)], args := [d1, d2, d3, d4] }
  | _ => none }
def SepEvenWrongFalsely : Prop := sepEvenRow.holds Try.pinned (OpenSpec.ofChange sepEvenWrong)

/-- 'credencelaw16.SepWall': WHATEVER THE INPUT: true; the input reads as it did. -/
def sepWallSpec : ChangeSpec := { name := "sepWall", fn := fun _ => fun
  | [d1, d2] => { results := [.lit (.bool true)], args := [d1, d2] }
  | _ => none }
def sepWallRow : OpenClaim := { program := "ytaibdlnolpbpiaa", sum := "44f4af577a266a84f10dd74596555e0416b33d7a7281299afdb5c4293ce76c65", func := "credence/credencelaw16.SepWall", spec := "sepWall", inPlace := ["slices.overlaps[int]"], unfollowed := true, recurses := true, plainKeys := false, apart := false }
def SepWallSaid : Prop := sepWallRow.holds Try.pinned (OpenSpec.ofChange sepWallSpec)

/-- ITS FALSE NEIGHBOUR: 'it returns false'. Refute it at one input. -/
def sepWallWrong : ChangeSpec := { name := "sepWall", fn := fun _ => fun
  | [d1, d2] => { results := [.lit (.bool false)], args := [d1, d2] }
  | _ => none }
def SepWallWrongFalsely : Prop := sepWallRow.holds Try.pinned (OpenSpec.ofChange sepWallWrong)

/-- 'credencelaw16.SepOpen': WHATEVER THE INPUT: true; the input reads as it did. -/
def sepOpenSpec : ChangeSpec := { name := "sepOpen", fn := fun _ => fun
  | [d1, d2, d3, d4] => { results := [.lit (.bool true)], args := [d1, d2, d3, d4] }
  | _ => none }
def sepOpenRow : OpenClaim := { program := "ytaibdlnolpbpiaa", sum := "44f4af577a266a84f10dd74596555e0416b33d7a7281299afdb5c4293ce76c65", func := "credence/credencelaw16.SepOpen", spec := "sepOpen", inPlace := ["slices.overlaps[int]"], unfollowed := true, recurses := true, plainKeys := false, apart := false }
def SepOpenSaid : Prop := sepOpenRow.holds Try.pinned (OpenSpec.ofChange sepOpenSpec)

/-- ITS FALSE NEIGHBOUR: 'it returns false'. Refute it at one input. -/
def sepOpenWrong : ChangeSpec := { name := "sepOpen", fn := fun _ => fun
  | [d1, d2, d3, d4] => { results := [.lit (.bool false)], args := [d1, d2, d3, d4] }
  | _ => none }
def SepOpenWrongFalsely : Prop := sepOpenRow.holds Try.pinned (OpenSpec.ofChange sepOpenWrong)

/- THE SECOND FORM. 'bulk': how many values and letters a reading holds, each counted each time it is reached (what is shared counts as often as it is met; a slice's spare places count too). A statement '..UptoSaid' is the law's where the arguments, and the package variables that the reading takes, are together of bulk at most 1048576: NARROWER than '..Said'. Prove '..Said' where nothing that the law and all that it calls make is longer than what came in: it says more and counts as full. Else prove '..UptoSaid'. A law counts once. -/
mutual
def uptoBulk {H : Type} : DataW H → Nat
  | .lit (.string bytes) => bytes.length + 1
  | .lit _ => 1
  | .nil => 1
  | .ptr d => uptoBulk d + 1
  | .slice elems spare => uptoBulkAll elems + uptoBulkAll spare + 1
  | .agg parts => uptoBulkAll parts + 1
  | .iface _ d => uptoBulk d + 1
  | .map entries => uptoBulkEntries entries + 1
  | .held _ => 1
def uptoBulkAll {H : Type} : List (DataW H) → Nat
  | [] => 0
  | d :: r => uptoBulk d + uptoBulkAll r
def uptoBulkEntries {H : Type} : List (Lit × DataW H) → Nat
  | [] => 0
  | x :: r => uptoBulkEntry x + uptoBulkEntries r
def uptoBulkEntry {H : Type} : Lit × DataW H → Nat
  | (.string bytes, d) => bytes.length + uptoBulk d + 1
  | (_, d) => uptoBulk d + 1
 end
def uptoSmall : (H : Type) → List (DataW H) → Bool := fun _ ds => decide (uptoBulkAll ds ≤ 1048576)
def OpenSpec.upto (s : _root_.Go.ChangeSpec) : _root_.Go.OpenSpec := { _root_.Go.OpenSpec.ofChange s with cond := some uptoSmall }

/-- 'credencelaw16.SepReach', WHERE WHAT IT READS IS OF BULK AT MOST 1048576: true; the input reads as it did. -/
def sepReachUptoRow : OpenClaim := { program := "ytaibdlnolpbpiaa", sum := "44f4af577a266a84f10dd74596555e0416b33d7a7281299afdb5c4293ce76c65", func := "credence/credencelaw16.SepReach", spec := "sepReach", unfollowed := true, recurses := true, plainKeys := false, apart := false, narrowed := true }
def SepReachUptoSaid : Prop := sepReachUptoRow.holds Try.pinned (OpenSpec.upto sepReachSpec)

/-- 'credencelaw16.SepTrail', WHERE WHAT IT READS IS OF BULK AT MOST 1048576: true; the input reads as it did. -/
def sepTrailUptoRow : OpenClaim := { program := "ytaibdlnolpbpiaa", sum := "44f4af577a266a84f10dd74596555e0416b33d7a7281299afdb5c4293ce76c65", func := "credence/credencelaw16.SepTrail", spec := "sepTrail", unfollowed := true, recurses := true, plainKeys := false, apart := false, narrowed := true }
def SepTrailUptoSaid : Prop := sepTrailUptoRow.holds Try.pinned (OpenSpec.upto sepTrailSpec)

/-- 'credencelaw16.SepApart', WHERE WHAT IT READS IS OF BULK AT MOST 1048576: true; the input reads as it did. -/
def sepApartUptoRow : OpenClaim := { program := "ytaibdlnolpbpiaa", sum := "44f4af577a266a84f10dd74596555e0416b33d7a7281299afdb5c4293ce76c65", func := "credence/credencelaw16.SepApart", spec := "sepApart", unfollowed := true, recurses := true, plainKeys := false, apart := false, narrowed := true }
def SepApartUptoSaid : Prop := sepApartUptoRow.holds Try.pinned (OpenSpec.upto sepApartSpec)

/-- 'credencelaw16.SepBlanket', WHERE WHAT IT READS IS OF BULK AT MOST 1048576: true; the input reads as it did. -/
def sepBlanketUptoRow : OpenClaim := { program := "ytaibdlnolpbpiaa", sum := "44f4af577a266a84f10dd74596555e0416b33d7a7281299afdb5c4293ce76c65", func := "credence/credencelaw16.SepBlanket", spec := "sepBlanket", inPlace := ["slices.overlaps[int]"], unfollowed := true, recurses := true, plainKeys := false, apart := false, narrowed := true }
def SepBlanketUptoSaid : Prop := sepBlanketUptoRow.holds Try.pinned (OpenSpec.upto sepBlanketSpec)

/-- 'credencelaw16.SepNames', WHERE WHAT IT READS IS OF BULK AT MOST 1048576: true; the input reads as it did. -/
def sepNamesUptoRow : OpenClaim := { program := "ytaibdlnolpbpiaa", sum := "44f4af577a266a84f10dd74596555e0416b33d7a7281299afdb5c4293ce76c65", func := "credence/credencelaw16.SepNames", spec := "sepNames", inPlace := ["slices.overlaps[int]"], unfollowed := true, recurses := true, plainKeys := false, apart := false, narrowed := true }
def SepNamesUptoSaid : Prop := sepNamesUptoRow.holds Try.pinned (OpenSpec.upto sepNamesSpec)

/-- 'credencelaw16.SepMoral', WHERE WHAT IT READS IS OF BULK AT MOST 1048576: true; the input reads as it did. -/
def sepMoralUptoRow : OpenClaim := { program := "ytaibdlnolpbpiaa", sum := "44f4af577a266a84f10dd74596555e0416b33d7a7281299afdb5c4293ce76c65", func := "credence/credencelaw16.SepMoral", spec := "sepMoral", inPlace := ["slices.overlaps[int]"], unfollowed := true, recurses := true, plainKeys := false, apart := false, narrowed := true }
def SepMoralUptoSaid : Prop := sepMoralUptoRow.holds Try.pinned (OpenSpec.upto sepMoralSpec)

/-- 'credencelaw16.SepEven', WHERE WHAT IT READS IS OF BULK AT MOST 1048576: true; the input reads as it did. -/
def sepEvenUptoRow : OpenClaim := { program := "ytaibdlnolpbpiaa", sum := "44f4af577a266a84f10dd74596555e0416b33d7a7281299afdb5c4293ce76c65", func := "credence/credencelaw16.SepEven", spec := "sepEven", inPlace := ["slices.overlaps[int]"], unfollowed := true, recurses := true, plainKeys := false, apart := false, narrowed := true }
def SepEvenUptoSaid : Prop := sepEvenUptoRow.holds Try.pinned (OpenSpec.upto sepEvenSpec)

/-- 'credencelaw16.SepWall', WHERE WHAT IT READS IS OF BULK AT MOST 1048576: true; the input reads as it did. -/
def sepWallUptoRow : OpenClaim := { program := "ytaibdlnolpbpiaa", sum := "44f4af577a266a84f10dd74596555e0416b33d7a7281299afdb5c4293ce76c65", func := "credence/credencelaw16.SepWall", spec := "sepWall", inPlace := ["slices.overlaps[int]"], unfollowed := true, recurses := true, plainKeys := false, apart := false, narrowed := true }
def SepWallUptoSaid : Prop := sepWallUptoRow.holds Try.pinned (OpenSpec.upto sepWallSpec)

/-- 'credencelaw16.SepOpen', WHERE WHAT IT READS IS OF BULK AT MOST 1048576: true; the input reads as it did. -/
def sepOpenUptoRow : OpenClaim := { program := "ytaibdlnolpbpiaa", sum := "44f4af577a266a84f10dd74596555e0416b33d7a7281299afdb5c4293ce76c65", func := "credence/credencelaw16.SepOpen", spec := "sepOpen", inPlace := ["slices.overlaps[int]"], unfollowed := true, recurses := true, plainKeys := false, apart := false, narrowed := true }
def SepOpenUptoSaid : Prop := sepOpenUptoRow.holds Try.pinned (OpenSpec.upto sepOpenSpec)

end Rows
end Go.Proofs.Ytaibdlnolpbpiaa
