/- FactorNames: the row: whatever comes in, the call returns true and changes nothing that was there. No condition beyond the row's own. -/
import Derived.Test.YtgmchedfgdgenaaFactorNames
import Derived.Test.YtgmchedfgdgenaaOpen
import Derived.Test.YtgmchedfgdgenaaFacts
namespace Go.Proofs.Ytgmchedfgdgenaa.FactorNamesRow
open Go.ChangeShapes Go.WideShapes Go.ChangeAt Go.RowKit

set_option maxRecDepth 100000 in
set_option maxHeartbeats 1600000 in
theorem lifted (os : Os) (started : os.Started) (H : Type) (enc : TypeId × Value → H) :
    ReturnsInHanded {} Try.checked os 4 .any (Rows.factorNamesSpec.pre6 enc Try.prog Try.f4 Rows.factorNamesRow.domain false) (Rows.factorNamesSpec.post enc Try.prog Try.f4 false true false false) := by
  refine returnsInHanded_of_change_sized (C := Try.checked) own started (by kernel_rfl) Try.func4
    (ChangeSpec.witness6 (enc := enc) (C := Try.checked) false ⟨#[], #[], []⟩ 8 (by kernel_rfl) (by kernel_rfl) (by kernel_rfl) (by kernel_rfl)) ?_
  intro W base args ds gs before hval0 hW _ hsz0 _
  have hsz : (DataW.weightsEach Try.prog (Try.f4.params.toList ++ Rows.factorNamesSpec.plain.varTypes Try.prog) (ds ++ gs)).all (· ≤ reachBytes) = true := hsz0
  clear hsz0
  have hval : ∀ (j : Nat) t v, Try.f4.params[j]? = some t → args[j]? = some v → Value.okWide Try.prog W .any base t v := hval0
  have hW' := hW
  obtain ⟨p, q, hA0, hV, rfl, _, _⟩ := hW
  have hA : DataW.TrodAll enc Try.prog W 0 (fun _ => true) true Try.f4.params.toList args.toList ds p := hA0
  obtain ⟨rfl, rfl⟩ := trodVars_none hV
  have hpost : ∀ W', Below W.heap.size W W' → ds = [] → Rows.factorNamesSpec.post enc Try.prog Try.f4 false true false false W args (.bool true) W' := by
    intro W' hb hl
    subst hl
    exact post_true (tb := 4) laidOut hW' rfl (by kernel_rfl) Try.underlying4 (by
      rw [Try.params4]
      intro t ht
      have ht' : t ∈ ([] : List TypeId) := ht
      cases ht') rfl rfl rfl hb
  rw [Try.params4] at hA hval hsz
  obtain ⟨hargs, rfl, rfl⟩ := trodAll_nil hA
  obtain rfl : args = #[] := by cases args; simp_all
  refine (FactorNames.law W).mono fun e W' ⟨he, hb⟩ => ?_
  exact ⟨_, he, hpost W' hb rfl⟩

theorem nam : Try.checked.prog.funcNamed Rows.factorNamesRow.func = some 4 := by kernel_rfl
theorem inst : Try.f4.isInstance Try.checked.prog Rows.factorNamesRow.origin Rows.factorNamesRow.targs := of_decide_eq_true (by kernel_rfl)
theorem wrap : Try.f4.isWrapper Try.checked.prog Rows.factorNamesRow.wrapper Rows.factorNamesRow.mainSum := by unfold Func.isWrapper; first | (rw [if_pos (by decide +kernel)]; kernel_rfl) | (rw [if_neg (by decide +kernel)]; exact ⟨rfl, rfl⟩)
theorem k1 : (Rows.factorNamesRow.inPlace == Try.prog.inPlace 4) = true := by kernel_rfl
theorem k2 : (Rows.factorNamesRow.unfollowed == Try.prog.unfollowed 4) = true := by kernel_rfl
theorem k3 : (Rows.factorNamesRow.recurses == Try.prog.recurses 4) = true := by kernel_rfl
theorem k4 : (Rows.factorNamesRow.named == Try.prog.varsNamed 4) = true := by kernel_rfl
theorem clo : joinedFacts Try.checked.prog 4 Try.f4 Rows.factorNamesSpec Rows.factorNamesRow = true := Facts.closed (by kernel_rfl) k1 k2 k3 k4
theorem proved : Rows.FactorNamesSaid :=
  OpenClaim.holds_of_wide 4 Try.f4 rfl rfl rfl rfl rfl rfl rfl ⟨rfl, rfl, rfl, rfl, rfl⟩ rfl rfl rfl rfl rfl nam Try.func4 clo
    inst wrap
    (fun os started H enc _ => lifted os started H enc)
#print axioms proved
end Go.Proofs.Ytgmchedfgdgenaa.FactorNamesRow
