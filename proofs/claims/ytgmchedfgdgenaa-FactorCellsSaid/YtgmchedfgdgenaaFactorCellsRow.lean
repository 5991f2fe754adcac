/- FactorCells: the row: whatever comes in, the call returns true and changes nothing that was there. No condition beyond the row's own. -/
import Derived.Test.YtgmchedfgdgenaaFactorCells
import Derived.Test.YtgmchedfgdgenaaOpen
import Derived.Test.YtgmchedfgdgenaaFacts
namespace Go.Proofs.Ytgmchedfgdgenaa.FactorCellsRow
open Go.ChangeShapes Go.WideShapes Go.ChangeAt Go.RowKit

set_option maxRecDepth 100000 in
set_option maxHeartbeats 1600000 in
theorem lifted (os : Os) (started : os.Started) (H : Type) (enc : TypeId × Value → H) :
    ReturnsInHanded {} Try.checked os 5 .any (Rows.factorCellsSpec.pre6 enc Try.prog Try.f5 Rows.factorCellsRow.domain false) (Rows.factorCellsSpec.post enc Try.prog Try.f5 false true false false) := by
  refine returnsInHanded_of_change_sized (C := Try.checked) own started (by kernel_rfl) Try.func5
    (ChangeSpec.witness6 (enc := enc) (C := Try.checked) false ⟨#[], #[.agg #[.slice none 0 0, .slice none 0 0, .slice none 0 0], .agg #[.slice none 0 0, .slice none 0 0, .slice none 0 0], .int .i64 0], []⟩ 8 (by kernel_rfl) (by kernel_rfl) (by kernel_rfl) (by kernel_rfl)) ?_
  intro W base args ds gs before hval0 hW _ hsz0 _
  have hsz : (DataW.weightsEach Try.prog (Try.f5.params.toList ++ Rows.factorCellsSpec.plain.varTypes Try.prog) (ds ++ gs)).all (· ≤ reachBytes) = true := hsz0
  clear hsz0
  have hval : ∀ (j : Nat) t v, Try.f5.params[j]? = some t → args[j]? = some v → Value.okWide Try.prog W .any base t v := hval0
  have hW' := hW
  obtain ⟨p, q, hA0, hV, rfl, _, _⟩ := hW
  have hA : DataW.TrodAll enc Try.prog W 0 (fun _ => true) true Try.f5.params.toList args.toList ds p := hA0
  obtain ⟨rfl, rfl⟩ := trodVars_none hV
  have hpost : ∀ W', Below W.heap.size W W' → (∃ d0 d1 d2, ds = [d0, d1, d2]) → Rows.factorCellsSpec.post enc Try.prog Try.f5 false true false false W args (.bool true) W' := by
    intro W' hb hl
    obtain ⟨d0, d1, d2, rfl⟩ := hl
    exact post_true (tb := 4) laidOut hW' rfl (by kernel_rfl) Try.underlying4 (by
      rw [Try.params5]
      intro t ht
      have ht' : t ∈ ([24, 24, 3] : List TypeId) := ht
      simp only [List.mem_cons, List.not_mem_nil, or_false] at ht'
      rcases ht' with rfl | rfl | rfl <;> exact ⟨by kernel_rfl, of_decide_eq_true (by kernel_rfl)⟩) rfl rfl rfl hb
  rw [Try.params5] at hA hval hsz
  obtain ⟨v0, vs0, d0, ds0, p0, q0, hargs, rfl, rfl, h0, r0⟩ := trodAll_cons hA
  obtain ⟨v1, vs1, d1, ds1, p1, q1, rfl, rfl, rfl, h1, r1⟩ := trodAll_cons r0
  obtain ⟨v2, vs2, d2, ds2, p2, q2, rfl, rfl, rfl, h2, r2⟩ := trodAll_cons r1
  obtain ⟨rfl, rfl, rfl⟩ := trodAll_nil r2
  obtain rfl : args = #[v0, v1, v2] := by cases args; simp_all
  have w0 : Wt Try.prog 24 d0 := Wt.each hsz 0 24 d0 rfl rfl
  have w1 : Wt Try.prog 24 d1 := Wt.each hsz 1 24 d1 rfl rfl
  have w2 : Wt Try.prog 3 d2 := Wt.each hsz 2 3 d2 rfl rfl
  obtain ⟨A0a, n0a, c0a, xs0a, A0b, n0b, c0b, xs0b, A0c, n0c, c0c, xs0c, rfl, s0a, s0b, s0c, b0a, b0b, b0c, m0a, m0b, m0c, q0⟩ := box_ints8 Try.underlying24 rfl rfl rfl (by kernel_rfl) (by kernel_rfl) Try.underlying22 Try.underlying3 (by kernel_rfl) (by kernel_rfl) (hval 0 24 v0 rfl rfl) h0 w0
  obtain ⟨A1a, n1a, c1a, xs1a, A1b, n1b, c1b, xs1b, A1c, n1c, c1c, xs1c, rfl, s1a, s1b, s1c, b1a, b1b, b1c, m1a, m1b, m1c, q1⟩ := box_ints8 Try.underlying24 rfl rfl rfl (by kernel_rfl) (by kernel_rfl) Try.underlying22 Try.underlying3 (by kernel_rfl) (by kernel_rfl) (hval 1 24 v1 rfl rfl) h1 w1
  obtain ⟨x2, rfl, rfl, rfl, q2⟩ := open_int Try.underlying3 (hval 2 3 v2 rfl rfl) h2
  refine (FactorCells.lawB A0a n0a c0a xs0a A0b n0b c0b xs0b A0c n0c c0c xs0c A1a n1a c1a xs1a A1b n1b c1b xs1b A1c n1c c1c xs1c x2 W s0a s0b s0c b0a b0b b0c m0a m0b m0c q0 s1a s1b s1c b1a b1b b1c m1a m1b m1c q1 q2).mono fun e W' ⟨he, hb⟩ => ?_
  exact ⟨_, he, hpost W' hb ⟨_, _, _, rfl⟩⟩

theorem nam : Try.checked.prog.funcNamed Rows.factorCellsRow.func = some 5 := by kernel_rfl
theorem inst : Try.f5.isInstance Try.checked.prog Rows.factorCellsRow.origin Rows.factorCellsRow.targs := of_decide_eq_true (by kernel_rfl)
theorem wrap : Try.f5.isWrapper Try.checked.prog Rows.factorCellsRow.wrapper Rows.factorCellsRow.mainSum := by unfold Func.isWrapper; first | (rw [if_pos (by decide +kernel)]; kernel_rfl) | (rw [if_neg (by decide +kernel)]; exact ⟨rfl, rfl⟩)
theorem k1 : (Rows.factorCellsRow.inPlace == Try.prog.inPlace 5) = true := by kernel_rfl
theorem k2 : (Rows.factorCellsRow.unfollowed == Try.prog.unfollowed 5) = true := by kernel_rfl
theorem k3 : (Rows.factorCellsRow.recurses == Try.prog.recurses 5) = true := by kernel_rfl
theorem k4 : (Rows.factorCellsRow.named == Try.prog.varsNamed 5) = true := by kernel_rfl
theorem clo : joinedFacts Try.checked.prog 5 Try.f5 Rows.factorCellsSpec Rows.factorCellsRow = true := Facts.closed (by kernel_rfl) k1 k2 k3 k4
theorem proved : Rows.FactorCellsSaid :=
  OpenClaim.holds_of_wide 5 Try.f5 rfl rfl rfl rfl rfl rfl rfl ⟨rfl, rfl, rfl, rfl, rfl⟩ rfl rfl rfl rfl rfl nam Try.func5 clo
    inst wrap
    (fun os started H enc _ => lifted os started H enc)
#print axioms proved
end Go.Proofs.Ytgmchedfgdgenaa.FactorCellsRow
