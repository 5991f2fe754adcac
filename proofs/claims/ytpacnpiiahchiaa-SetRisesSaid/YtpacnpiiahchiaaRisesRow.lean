/- SetRises returns true, whatever list of ints comes in, and changes nothing that was there. No condition beyond the row's own. -/
import Derived.Test.YtpacnpiiahchiaaRises
import Derived.Test.YtpacnpiiahchiaaRow
namespace Go.Proofs.Ytpacnpiiahchiaa.Rises
open Go.ChangeShapes Go.WideShapes Go.ChangeAt Go.RowKit

theorem cellsE : Try.prog.cellsOf 3 = 1 := by kernel_rfl
theorem bytesE : Try.prog.bytesOf 3 = 8 := by kernel_rfl

set_option maxRecDepth 100000 in
theorem lifted (os : Os) (started : os.Started) (H : Type) (enc : TypeId × Value → H) :
    ReturnsInHanded {} Try.checked os 3 .any (Rows.setRisesSpec.pre6 enc Try.prog Try.f3 Rows.setRisesRow.domain false) (Rows.setRisesSpec.post enc Try.prog Try.f3 false true false false) := by
  refine returnsInHanded_of_change_sized (C := Try.checked) own started (by kernel_rfl) Try.func3
    (ChangeSpec.witness6 (enc := enc) (C := Try.checked) false ⟨#[], #[.slice none 0 0], []⟩ 8 (by kernel_rfl) (by kernel_rfl) (by kernel_rfl) (by kernel_rfl)) ?_
  intro W base args ds gs before hval0 hW _ hsz0 _
  have hsz : (DataW.weightsEach Try.prog (Try.f3.params.toList ++ Rows.setRisesSpec.plain.varTypes Try.prog) (ds ++ gs)).all (· ≤ reachBytes) = true := hsz0
  clear hsz0
  have hval : ∀ (j : Nat) t v, Try.f3.params[j]? = some t → args[j]? = some v → Value.okWide Try.prog W .any base t v := hval0
  have hW' := hW
  obtain ⟨p, q, hA0, hV, rfl, _, _⟩ := hW
  have hA : DataW.TrodAll enc Try.prog W 0 (fun _ => true) true Try.f3.params.toList args.toList ds p := hA0
  obtain ⟨rfl, rfl⟩ := trodVars_none hV
  have hpost : ∀ W', Below W.heap.size W W' → ds.length = 1 → Rows.setRisesSpec.post enc Try.prog Try.f3 false true false false W args (.bool true) W' := by
    intro W' hb hl
    obtain ⟨d, rfl⟩ := List.length_eq_one_iff.1 hl
    exact post_true (tb := 4) laidOut hW' rfl (by kernel_rfl) Try.underlying4 (by rw [Try.params3]; intro t ht; obtain rfl : t = 22 := (by simpa using ht); exact ⟨by kernel_rfl, of_decide_eq_true (by kernel_rfl)⟩) rfl rfl rfl hb
  rw [Try.params3] at hA hval hsz
  obtain ⟨v0, vs0, d0, ds0, p0, q0, hargs, rfl, rfl, h0, r0⟩ := trodAll_cons hA
  obtain ⟨rfl, rfl, rfl⟩ := trodAll_nil r0
  obtain rfl : args = #[v0] := by cases args; simp_all
  obtain ⟨A, n, c, xs, rfl, hsl, _, _, _⟩ := slice_ints Try.underlying22 Try.underlying3 cellsE bytesE (hval 0 22 v0 rfl rfl) h0 hsz (j := 0) rfl rfl
  refine (law A n c xs W hsl).mono fun e W' ⟨he, hb⟩ => ?_
  exact ⟨_, he, hpost W' hb rfl⟩

theorem proved : Rows.SetRisesSaid :=
  OpenClaim.holds_of_wide 3 Try.f3 rfl rfl rfl rfl rfl rfl rfl ⟨rfl, rfl, rfl, rfl, rfl⟩ rfl rfl rfl rfl rfl (by kernel_rfl) Try.func3 (by kernel_rfl)
    (of_decide_eq_true (by kernel_rfl)) (by unfold Func.isWrapper; first | (rw [if_pos (by decide +kernel)]; kernel_rfl) | (rw [if_neg (by decide +kernel)]; exact ⟨rfl, rfl⟩))
    (fun os started H enc _ => lifted os started H enc)
#print axioms proved
end Go.Proofs.Ytpacnpiiahchiaa.Rises
