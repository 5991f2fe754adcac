/- SetGrows returns true, whatever three lists of ints come in, and changes nothing that was there. No condition beyond the row's own. -/
import Derived.Test.YtpacnpiiahchiaaGrows
import Derived.Test.YtpacnpiiahchiaaRow
namespace Go.Proofs.Ytpacnpiiahchiaa.SetGrows
open Go.ChangeShapes Go.WideShapes Go.ChangeAt Go.RowKit

theorem cellsE : Try.prog.cellsOf 3 = 1 := by kernel_rfl
theorem bytesE : Try.prog.bytesOf 3 = 8 := by kernel_rfl

set_option maxRecDepth 100000 in
theorem lifted (os : Os) (started : os.Started) (H : Type) (enc : TypeId × Value → H) :
    ReturnsInHanded {} Try.checked os 5 .any (Rows.setGrowsSpec.pre6 enc Try.prog Try.f5 Rows.setGrowsRow.domain false) (Rows.setGrowsSpec.post enc Try.prog Try.f5 false true false false) := by
  refine returnsInHanded_of_change_sized (C := Try.checked) own started (by kernel_rfl) Try.func5
    (ChangeSpec.witness6 (enc := enc) (C := Try.checked) false ⟨#[], #[.slice none 0 0, .slice none 0 0, .slice none 0 0], []⟩ 8 (by kernel_rfl) (by kernel_rfl) (by kernel_rfl) (by kernel_rfl)) ?_
  intro W base args ds gs before hval0 hW _ hsz0 _
  have hsz : (DataW.weightsEach Try.prog (Try.f5.params.toList ++ Rows.setGrowsSpec.plain.varTypes Try.prog) (ds ++ gs)).all (· ≤ reachBytes) = true := hsz0
  clear hsz0
  have hval : ∀ (j : Nat) t v, Try.f5.params[j]? = some t → args[j]? = some v → Value.okWide Try.prog W .any base t v := hval0
  have hW' := hW
  obtain ⟨p, q, hA0, hV, rfl, _, _⟩ := hW
  have hA : DataW.TrodAll enc Try.prog W 0 (fun _ => true) true Try.f5.params.toList args.toList ds p := hA0
  obtain ⟨rfl, rfl⟩ := trodVars_none hV
  have hpost : ∀ W', Below W.heap.size W W' → (∃ d1 d2 d3, ds = [d1, d2, d3]) → Rows.setGrowsSpec.post enc Try.prog Try.f5 false true false false W args (.bool true) W' := by
    intro W' hb hl
    obtain ⟨d1, d2, d3, rfl⟩ := hl
    exact post_true (tb := 4) laidOut hW' rfl (by kernel_rfl) Try.underlying4 (by rw [Try.params5]; intro t ht; obtain rfl : t = 22 := (by simpa using ht); exact ⟨by kernel_rfl, of_decide_eq_true (by kernel_rfl)⟩) rfl rfl rfl hb
  rw [Try.params5] at hA hval hsz
  obtain ⟨v0, vs0, d0, ds0, p0, q0, hargs, rfl, rfl, h0, r0⟩ := trodAll_cons hA
  obtain ⟨v1, vs1, d1, ds1, p1, q1, rfl, rfl, rfl, h1, r1⟩ := trodAll_cons r0
  obtain ⟨v2, vs2, d2, ds2, p2, q2, rfl, rfl, rfl, h2, r2⟩ := trodAll_cons r1
  obtain ⟨rfl, rfl, rfl⟩ := trodAll_nil r2
  obtain rfl : args = #[v0, v1, v2] := by cases args; simp_all
  obtain ⟨A1, n1, c1, xs, rfl, hsl1, _, _, _⟩ := slice_ints Try.underlying22 Try.underlying3 cellsE bytesE (hval 0 22 v0 rfl rfl) h0 hsz (j := 0) rfl rfl
  obtain ⟨A2, n2, c2, ys, rfl, hsl2, _, _, _⟩ := slice_ints Try.underlying22 Try.underlying3 cellsE bytesE (hval 1 22 v1 rfl rfl) h1 hsz (j := 1) rfl rfl
  obtain ⟨A3, n3, c3, zs, rfl, hsl3, _, _, _⟩ := slice_ints Try.underlying22 Try.underlying3 cellsE bytesE (hval 2 22 v2 rfl rfl) h2 hsz (j := 2) rfl rfl
  refine (Grows.law A1 A2 A3 n1 n2 n3 c1 c2 c3 xs ys zs W hsl1 hsl2 hsl3).mono fun e W' ⟨he, hb⟩ => ?_
  exact ⟨_, he, hpost W' hb ⟨_, _, _, rfl⟩⟩

theorem proved : Rows.SetGrowsSaid :=
  OpenClaim.holds_of_wide 5 Try.f5 rfl rfl rfl rfl rfl rfl rfl ⟨rfl, rfl, rfl, rfl, rfl⟩ rfl rfl rfl rfl rfl (by kernel_rfl) Try.func5 (by kernel_rfl)
    (of_decide_eq_true (by kernel_rfl)) (by unfold Func.isWrapper; first | (rw [if_pos (by decide +kernel)]; kernel_rfl) | (rw [if_neg (by decide +kernel)]; exact ⟨rfl, rfl⟩))
    (fun os started H enc _ => lifted os started H enc)
#print axioms proved
end Go.Proofs.Ytpacnpiiahchiaa.SetGrows
