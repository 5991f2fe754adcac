/- SepOpen: the row: whatever comes in, the call returns true and changes nothing that was there. No condition beyond the row's own. -/
import Derived.Test.YtaibdlnolpbpiaaSepOpen
import Derived.Test.YtaibdlnolpbpiaaOpenR
import Derived.Test.YtaibdlnolpbpiaaFacts
namespace Go.Proofs.Ytaibdlnolpbpiaa.SepOpenRow
open Go.ChangeShapes Go.WideShapes Go.ChangeAt Go.RowKit

set_option maxRecDepth 100000 in
set_option maxHeartbeats 1600000 in
theorem lifted (os : Os) (started : os.Started) (H : Type) (enc : TypeId × Value → H) :
    ReturnsInHanded {} Try.checked os 11 .any (Rows.sepOpenSpec.pre6 enc Try.prog Try.f11 Rows.sepOpenRow.domain false) (Rows.sepOpenSpec.post enc Try.prog Try.f11 false true false false) := by
  refine returnsInHanded_of_change_sized (C := Try.checked) own started (by kernel_rfl) Try.func11
    (ChangeSpec.witness6 (enc := enc) (C := Try.checked) false ⟨#[], #[.slice none 0 0, .int .i64 0, .int .i64 0, .slice none 0 0], []⟩ 8 (by kernel_rfl) (by kernel_rfl) (by kernel_rfl) (by kernel_rfl)) ?_
  intro W base args ds gs before hval0 hW _ hsz0 _
  have hsz : (DataW.weightsEach Try.prog (Try.f11.params.toList ++ Rows.sepOpenSpec.plain.varTypes Try.prog) (ds ++ gs)).all (· ≤ reachBytes) = true := hsz0
  clear hsz0
  have hval : ∀ (j : Nat) t v, Try.f11.params[j]? = some t → args[j]? = some v → Value.okWide Try.prog W .any base t v := hval0
  have hW' := hW
  obtain ⟨p, q, hA0, hV, rfl, _, _⟩ := hW
  have hA : DataW.TrodAll enc Try.prog W 0 (fun _ => true) true Try.f11.params.toList args.toList ds p := hA0
  obtain ⟨rfl, rfl⟩ := trodVars_none hV
  have hpost : ∀ W', Below W.heap.size W W' → (∃ d0 d1 d2 d3, ds = [d0, d1, d2, d3]) → Rows.sepOpenSpec.post enc Try.prog Try.f11 false true false false W args (.bool true) W' := by
    intro W' hb hl
    obtain ⟨d0, d1, d2, d3, rfl⟩ := hl
    exact post_true (tb := 4) laidOut hW' rfl (by kernel_rfl) Try.underlying4 (by
      rw [Try.params11]
      intro t ht
      have ht' : t ∈ ([22, 3, 3, 23] : List TypeId) := ht
      simp only [List.mem_cons, List.not_mem_nil, or_false] at ht'
      rcases ht' with rfl | rfl | rfl | rfl <;> exact ⟨by kernel_rfl, of_decide_eq_true (by kernel_rfl)⟩) rfl rfl rfl hb
  rw [Try.params11] at hA hval hsz
  obtain ⟨v0, vs0, d0, ds0, p0, q0, hargs, rfl, rfl, h0, r0⟩ := trodAll_cons hA
  obtain ⟨v1, vs1, d1, ds1, p1, q1, rfl, rfl, rfl, h1, r1⟩ := trodAll_cons r0
  obtain ⟨v2, vs2, d2, ds2, p2, q2, rfl, rfl, rfl, h2, r2⟩ := trodAll_cons r1
  obtain ⟨v3, vs3, d3, ds3, p3, q3, rfl, rfl, rfl, h3, r3⟩ := trodAll_cons r2
  obtain ⟨rfl, rfl, rfl⟩ := trodAll_nil r3
  obtain rfl : args = #[v0, v1, v2, v3] := by cases args; simp_all
  have w0 : Wt Try.prog 22 d0 := Wt.each hsz 0 22 d0 rfl rfl
  have w1 : Wt Try.prog 3 d1 := Wt.each hsz 1 3 d1 rfl rfl
  have w2 : Wt Try.prog 3 d2 := Wt.each hsz 2 3 d2 rfl rfl
  have w3 : Wt Try.prog 23 d3 := Wt.each hsz 3 23 d3 rfl rfl
  obtain ⟨fu0, y0, g0, k0⟩ := arg_slice Try.underlying22 (hval 0 22 v0 rfl rfl) h0 w0
  obtain ⟨A0, n0, c0, xs0, rfl, s0, b0, l0, q0⟩ := cell_rows Try.underlying22 Try.underlying23 Try.underlying3 (by kernel_rfl) (by kernel_rfl) (by kernel_rfl) (by kernel_rfl) g0 k0
  obtain ⟨x1, rfl, rfl, rfl, q1⟩ := open_int Try.underlying3 (hval 1 3 v1 rfl rfl) h1
  obtain ⟨x2, rfl, rfl, rfl, q2⟩ := open_int Try.underlying3 (hval 2 3 v2 rfl rfl) h2
  obtain ⟨fu3, y3, g3, k3⟩ := arg_slice Try.underlying23 (hval 3 23 v3 rfl rfl) h3 w3
  obtain ⟨A3, n3, c3, xs3, rfl, s3, b3, l3, q3⟩ := cell_slice (Value.int .i64) _ Try.underlying23 (by kernel_rfl) (of_decide_eq_true (by kernel_rfl)) (fun n c z h _ => cell_int (W := W) Try.underlying3 n c z h) g3 k3
  refine (SepOpen.lawB A0 n0 c0 xs0 x1 x2 A3 n3 c3 xs3 W s0 l0 b0 q0 q1 q2 s3 q3 (by have h := b3; rw [show Try.prog.bytesOf 3 = 8 from by kernel_rfl] at h; exact h)).mono fun e W' ⟨he, hb⟩ => ?_
  exact ⟨_, he, hpost W' hb ⟨_, _, _, _, rfl⟩⟩

theorem nam : Try.checked.prog.funcNamed Rows.sepOpenRow.func = some 11 := by kernel_rfl
theorem inst : Try.f11.isInstance Try.checked.prog Rows.sepOpenRow.origin Rows.sepOpenRow.targs := of_decide_eq_true (by kernel_rfl)
theorem wrap : Try.f11.isWrapper Try.checked.prog Rows.sepOpenRow.wrapper Rows.sepOpenRow.mainSum := by unfold Func.isWrapper; first | (rw [if_pos (by decide +kernel)]; kernel_rfl) | (rw [if_neg (by decide +kernel)]; exact ⟨rfl, rfl⟩)
theorem k1 : (Rows.sepOpenRow.inPlace == Try.prog.inPlace 11) = true := by kernel_rfl
theorem k2 : (Rows.sepOpenRow.unfollowed == Try.prog.unfollowed 11) = true := by kernel_rfl
theorem k3 : (Rows.sepOpenRow.recurses == Try.prog.recurses 11) = true := by kernel_rfl
theorem k4 : (Rows.sepOpenRow.named == Try.prog.varsNamed 11) = true := by kernel_rfl
theorem clo : joinedFacts Try.checked.prog 11 Try.f11 Rows.sepOpenSpec Rows.sepOpenRow = true := Facts.closed (by kernel_rfl) k1 k2 k3 k4
theorem proved : Rows.SepOpenSaid :=
  OpenClaim.holds_of_wide 11 Try.f11 rfl rfl rfl rfl rfl rfl rfl ⟨rfl, rfl, rfl, rfl, rfl⟩ rfl rfl rfl rfl rfl nam Try.func11 clo
    inst wrap
    (fun os started H enc _ => lifted os started H enc)
#print axioms proved
end Go.Proofs.Ytaibdlnolpbpiaa.SepOpenRow
