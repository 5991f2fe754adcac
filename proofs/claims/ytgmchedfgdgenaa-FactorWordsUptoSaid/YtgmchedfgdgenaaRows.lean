/-
  No cell of these rows narrows 'for every input' (looked for: loops, veiled, ifaces, maps, wideKeys, modest, calm, conditions, laid).
  DERIVED. THE GIVEN ROWS OF THIS SEAT. 4 by the template 'for every input the law returns true; each argument reads behind the call as it read before'; 0 by the template 'total and deterministic' (their statements: YtgmchedfgdgenaaTotals.lean).
  GIVEN WITH THE SEED: the statements are not yours to turn. If you find one false, say at which input.
  Laid BY PROGRAM, IN A SANDBOX (cutbox-rows.mjs): the forced cells as the released guide's own fill.sh prints them over the translation 5c1a4b99995f0854… (all of the seat's roots in one cut). By AI agents, Wed Nov 11 2026. No macro, syntax, notation, axiom, sorry.
-/
import Derived.Test.YtgmchedfgdgenaaChecked
import GoSem.Claim
import GoSem.ClaimJoined
import GoSem.ClaimMapViews
import Derived.JoinedTies
import Derived.KernelRfl
namespace Go.Proofs.Ytgmchedfgdgenaa
/- THE CELL 'sum', in the pinned program and in every row, IS THE sha256 OF THE DUMP (.gsa) THAT YtgmchedfgdgenaaProg.lean LOADS. Nothing in Lean hashes anything: it is a label: what it is worth is what the hold of that sum in a sandbox is worth. -/
noncomputable def Try.pinned : Pinned := { name := "ytgmchedfgdgenaa", sum := "5c1a4b99995f085442e18b2ecee1c0ddf0dcfd08630a30e670df207ba02ca3f0", checked := Try.checked }
namespace Rows
def none {H : Type} : Left H := { results := [], args := [] }

/-- 'credencelaw13.FactorMap': WHATEVER THE INPUT: true; the input reads as it did. -/
def factorMapSpec : ChangeSpec := { name := "factorMap", fn := fun _ => fun
  | [d1, d2] => { results := [.lit (.bool true)], args := [d1, d2] }
  | _ => none }
def factorMapRow : OpenClaim := { program := "ytgmchedfgdgenaa", sum := "5c1a4b99995f085442e18b2ecee1c0ddf0dcfd08630a30e670df207ba02ca3f0", func := "credence/credencelaw13.FactorMap", spec := "factorMap", unfollowed := true, recurses := true, apart := false }
def FactorMapSaid : Prop := factorMapRow.holds Try.pinned (OpenSpec.ofChange factorMapSpec)

/-- ITS FALSE NEIGHBOUR: 'it returns false'. Refute it at one input. -/
def factorMapWrong : ChangeSpec := { name := "factorMap", fn := fun _ => fun
  | [d1, d2] => { results := [.lit (.bool false)], args := [d1, d2] }
  | _ => none }
def FactorMapWrongFalsely : Prop := factorMapRow.holds Try.pinned (OpenSpec.ofChange factorMapWrong)

/-- 'credencelaw13.FactorNames': WHATEVER THE INPUT: true; the input reads as it did. -/
def factorNamesSpec : ChangeSpec := { name := "factorNames", fn := fun _ => fun
  | [] => { results := [.lit (.bool true)], args := [] }
  | _ => none }
def factorNamesRow : OpenClaim := { program := "ytgmchedfgdgenaa", sum := "5c1a4b99995f085442e18b2ecee1c0ddf0dcfd08630a30e670df207ba02ca3f0", func := "credence/credencelaw13.FactorNames", spec := "factorNames", unfollowed := true, recurses := true, apart := false }
def FactorNamesSaid : Prop := factorNamesRow.holds Try.pinned (OpenSpec.ofChange factorNamesSpec)

/-- ITS FALSE NEIGHBOUR: 'it returns false'. Refute it at one input. -/
def factorNamesWrong : ChangeSpec := { name := "factorNames", fn := fun _ => fun
  | [] => { results := [.lit (.bool false)], args := [] }
  | _ => none }
def FactorNamesWrongFalsely : Prop := factorNamesRow.holds Try.pinned (OpenSpec.ofChange factorNamesWrong)

/-- 'credencelaw13.FactorCells': WHATEVER THE INPUT: true; the input reads as it did. -/
def factorCellsSpec : ChangeSpec := { name := "factorCells", fn := fun _ => fun
  | [d1, d2, d3] => { results := [.lit (.bool true)], args := [d1, d2, d3] }
  | _ => none }
def factorCellsRow : OpenClaim := { program := "ytgmchedfgdgenaa", sum := "5c1a4b99995f085442e18b2ecee1c0ddf0dcfd08630a30e670df207ba02ca3f0", func := "credence/credencelaw13.FactorCells", spec := "factorCells", unfollowed := true, recurses := true, apart := false }
def FactorCellsSaid : Prop := factorCellsRow.holds Try.pinned (OpenSpec.ofChange factorCellsSpec)

/-- ITS FALSE NEIGHBOUR: 'it returns false'. Refute it at one input. -/
def factorCellsWrong : ChangeSpec := { name := "factorCells", fn := fun _ => fun
  | [d1, d2, d3] => { results := [.lit (.bool false)], args := [d1, d2, d3] }
  | _ => none }
def FactorCellsWrongFalsely : Prop := factorCellsRow.holds Try.pinned (OpenSpec.ofChange factorCellsWrong)

/-- 'credencelaw13.FactorWords': WHATEVER THE INPUT: true; the input reads as it did. -/
def factorWordsSpec : ChangeSpec := { name := "factorWords", fn := fun _ => fun
  | [d1, d2, d3, d4, d5] => { results := [.lit (.bool true)], args := [d1, d2, d3, d4, d5] }
  | _ => none }
def factorWordsRow : OpenClaim := { program := "ytgmchedfgdgenaa", sum := "5c1a4b99995f085442e18b2ecee1c0ddf0dcfd08630a30e670df207ba02ca3f0", func := "credence/credencelaw13.FactorWords", spec := "factorWords", unfollowed := true, recurses := true, apart := false }
def FactorWordsSaid : Prop := factorWordsRow.holds Try.pinned (OpenSpec.ofChange factorWordsSpec)

/-- ITS FALSE NEIGHBOUR: 'it returns false'. Refute it at one input. -/
def factorWordsWrong : ChangeSpec := { name := "factorWords", fn := fun _ => fun
  | [d1, d2, d3, d4, d5] => { results := [.lit (.bool false)], args := [d1, d2, d3, d4, d5] }
  | _ => none }
def FactorWordsWrongFalsely : Prop := factorWordsRow.holds Try.pinned (OpenSpec.ofChange factorWordsWrong)

/- THE SECOND FORM. 'bulk': how many values and letters a reading holds, each counted each time it is reached (what is shared counts as often as it is met; a slice's spare places count too). A statement '..UptoSaid' is the law's where the arguments, and the package variables that the reading takes, are together of bulk at most 1048576: NARROWER than '..Said'. Prove '..Said' where nothing that the law and all that it calls make is longer than what came in: it says more and counts as full. Else prove '..UptoSaid'. A law counts once. -/
mutual
def uptoBulk {H : Type} : DataW H → Nat
  | .lit (.string bytes) => bytes.length + 1
  | .lit _ => 1
  | .nil => 1
  | .ptr d => uptoBulk d + 1
  | .slice elems spare => uptoBulkAll elems + uptoBulkAll spare + 1
  | .agg parts => uptoBulkAll parts + 1
  | .iface _ d => uptoBulk d + 1
  | .map entries => uptoBulkEntries entries + 1
  | .held _ => 1
def uptoBulkAll {H : Type} : List (DataW H) → Nat
  | [] => 0
  | d :: r => uptoBulk d + uptoBulkAll r
def uptoBulkEntries {H : Type} : List (Lit × DataW H) → Nat
  | [] => 0
  | x :: r => uptoBulkEntry x + uptoBulkEntries r
def uptoBulkEntry {H : Type} : Lit × DataW H → Nat
  | (.string bytes, d) => bytes.length + uptoBulk d + 1
  | (_, d) => uptoBulk d + 1
 end
def uptoSmall : (H : Type) → List (DataW H) → Bool := fun _ ds => decide (uptoBulkAll ds ≤ 1048576)
def OpenSpec.upto (s : _root_.Go.ChangeSpec) : _root_.Go.OpenSpec := { _root_.Go.OpenSpec.ofChange s with cond := some uptoSmall }

/-- 'credencelaw13.FactorMap', WHERE WHAT IT READS IS OF BULK AT MOST 1048576: true; the input reads as it did. -/
def factorMapUptoRow : OpenClaim := { program := "ytgmchedfgdgenaa", sum := "5c1a4b99995f085442e18b2ecee1c0ddf0dcfd08630a30e670df207ba02ca3f0", func := "credence/credencelaw13.FactorMap", spec := "factorMap", unfollowed := true, recurses := true, apart := false, narrowed := true }
def FactorMapUptoSaid : Prop := factorMapUptoRow.holds Try.pinned (OpenSpec.upto factorMapSpec)

/-- 'credencelaw13.FactorNames', WHERE WHAT IT READS IS OF BULK AT MOST 1048576: true; the input reads as it did. -/
def factorNamesUptoRow : OpenClaim := { program := "ytgmchedfgdgenaa", sum := "5c1a4b99995f085442e18b2ecee1c0ddf0dcfd08630a30e670df207ba02ca3f0", func := "credence/credencelaw13.FactorNames", spec := "factorNames", unfollowed := true, recurses := true, apart := false, narrowed := true }
def FactorNamesUptoSaid : Prop := factorNamesUptoRow.holds Try.pinned (OpenSpec.upto factorNamesSpec)

/-- 'credencelaw13.FactorCells', WHERE WHAT IT READS IS OF BULK AT MOST 1048576: true; the input reads as it did. -/
def factorCellsUptoRow : OpenClaim := { program := "ytgmchedfgdgenaa", sum := "5c1a4b99995f085442e18b2ecee1c0ddf0dcfd08630a30e670df207ba02ca3f0", func := "credence/credencelaw13.FactorCells", spec := "factorCells", unfollowed := true, recurses := true, apart := false, narrowed := true }
def FactorCellsUptoSaid : Prop := factorCellsUptoRow.holds Try.pinned (OpenSpec.upto factorCellsSpec)

/-- 'credencelaw13.FactorWords', WHERE WHAT IT READS IS OF BULK AT MOST 1048576: true; the input reads as it did. -/
def factorWordsUptoRow : OpenClaim := { program := "ytgmchedfgdgenaa", sum := "5c1a4b99995f085442e18b2ecee1c0ddf0dcfd08630a30e670df207ba02ca3f0", func := "credence/credencelaw13.FactorWords", spec := "factorWords", unfollowed := true, recurses := true, apart := false, narrowed := true }
def FactorWordsUptoSaid : Prop := factorWordsUptoRow.holds Try.pinned (OpenSpec.upto factorWordsSpec)

end Rows
end Go.Proofs.Ytgmchedfgdgenaa
