/- PruneSays: the row: whatever comes in, the call returns true and changes nothing that was there. No condition beyond the row's own. -/
import Derived.Test.YtdlnglffimcopaaPruneSays
import Derived.Test.YtdlnglffimcopaaOpenR
import Derived.Test.YtdlnglffimcopaaFacts
import Derived.Test.YtdlnglffimcopaaBulk
namespace Go.Proofs.Ytdlnglffimcopaa.PruneSaysRow
open Go.ChangeShapes Go.WideShapes Go.ChangeAt Go.RowKit

set_option maxRecDepth 100000 in
set_option maxHeartbeats 1600000 in
theorem lifted (os : Os) (started : os.Started) (H : Type) (enc : TypeId × Value → H) (F0 : Stop.Interp) :
    ReturnsInHanded {} Try.checked os 8 .any ((Rows.OpenSpec.upto Rows.pruneSaysSpec).pre6 enc Try.prog Try.f8 Rows.pruneSaysUptoRow.domain false) (((Rows.OpenSpec.upto Rows.pruneSaysSpec).at F0).post enc Try.prog Try.f8 false true false false) := by
  refine returnsInHanded_of_cond_sized (C := Try.checked) (s := Rows.OpenSpec.upto Rows.pruneSaysSpec) (k := Rows.uptoSmall) (F := F0) rfl own started (by kernel_rfl) Try.func8
    (OpenSpec.witness (enc := enc) (C := Try.checked) (s := Rows.OpenSpec.upto Rows.pruneSaysSpec) (k := Rows.uptoSmall) rfl false ⟨#[], #[.slice none 0 0, .slice none 0 0, .slice none 0 0], []⟩ 8 (by kernel_rfl) (by kernel_rfl) (by kernel_rfl) (x := ([.nil, .nil, .nil], [], [])) (by kernel_rfl) (by kernel_rfl) (by kernel_rfl)) ?_
  intro W base args ds gs before hval0 hW _ hk0 hsz0 _
  have hsz : (DataW.weightsEach Try.prog (Try.f8.params.toList ++ Rows.pruneSaysSpec.plain.varTypes Try.prog) (ds ++ gs)).all (· ≤ reachBytes) = true := hsz0
  clear hsz0
  have hval : ∀ (j : Nat) t v, Try.f8.params[j]? = some t → args[j]? = some v → Value.okWide Try.prog W .any base t v := hval0
  have hW' := hW
  obtain ⟨p, q, hA0, hV, rfl, _, _⟩ := hW
  have hA : DataW.TrodAll enc Try.prog W 0 (fun _ => true) true Try.f8.params.toList args.toList ds p := hA0
  obtain ⟨rfl, rfl⟩ := trodVars_none hV
  have hpost : ∀ W', Below W.heap.size W W' → (∃ d0 d1 d2, ds = [d0, d1, d2]) → ((Rows.OpenSpec.upto Rows.pruneSaysSpec).at F0).post enc Try.prog Try.f8 false true false false W args (.bool true) W' := by
    intro W' hb hl
    obtain ⟨d0, d1, d2, rfl⟩ := hl
    exact post_true (tb := 4) laidOut hW' rfl (by kernel_rfl) Try.underlying4 (by
      rw [Try.params8]
      intro t ht
      have ht' : t ∈ ([22, 23, 23] : List TypeId) := ht
      simp only [List.mem_cons, List.not_mem_nil, or_false] at ht'
      rcases ht' with rfl | rfl | rfl <;> exact ⟨by kernel_rfl, of_decide_eq_true (by kernel_rfl)⟩) rfl rfl rfl hb
  rw [Try.params8] at hA hval hsz
  obtain ⟨v0, vs0, d0, ds0, p0, q0, hargs, rfl, rfl, h0, r0⟩ := trodAll_cons hA
  obtain ⟨v1, vs1, d1, ds1, p1, q1, rfl, rfl, rfl, h1, r1⟩ := trodAll_cons r0
  obtain ⟨v2, vs2, d2, ds2, p2, q2, rfl, rfl, rfl, h2, r2⟩ := trodAll_cons r1
  obtain ⟨rfl, rfl, rfl⟩ := trodAll_nil r2
  obtain rfl : args = #[v0, v1, v2] := by cases args; simp_all
  have w0 : Wt Try.prog 22 d0 := Wt.each hsz 0 22 d0 rfl rfl
  have w1 : Wt Try.prog 23 d1 := Wt.each hsz 1 23 d1 rfl rfl
  have w2 : Wt Try.prog 23 d2 := Wt.each hsz 2 23 d2 rfl rfl
  obtain ⟨fu0, y0, g0, k0⟩ := arg_slice Try.underlying22 (hval 0 22 v0 rfl rfl) h0 w0
  obtain ⟨A0, n0, c0, xs0, rfl, s0, b0, l0, q0⟩ := cell_rows Try.underlying22 Try.underlying23 Try.underlying3 (by kernel_rfl) (by kernel_rfl) (by kernel_rfl) (by kernel_rfl) g0 k0
  obtain ⟨fu1, y1, g1, k1⟩ := arg_slice Try.underlying23 (hval 1 23 v1 rfl rfl) h1 w1
  obtain ⟨A1, n1, c1, xs1, rfl, s1, b1, l1, q1⟩ := cell_slice (Value.int .i64) _ Try.underlying23 (by kernel_rfl) (of_decide_eq_true (by kernel_rfl)) (fun n c z h _ => cell_int (W := W) Try.underlying3 n c z h) g1 k1
  obtain ⟨fu2, y2, g2, k2⟩ := arg_slice Try.underlying23 (hval 2 23 v2 rfl rfl) h2 w2
  obtain ⟨A2, n2, c2, xs2, rfl, s2, b2, l2, q2⟩ := cell_slice (Value.int .i64) _ Try.underlying23 (by kernel_rfl) (of_decide_eq_true (by kernel_rfl)) (fun n c z h _ => cell_int (W := W) Try.underlying3 n c z h) g2 k2
  have hk : Rows.uptoBulkAll ([d0, d1, d2] : List (DataW H)) ≤ 1048576 := by simpa [Rows.uptoSmall] using hk0
  simp only [Rows.uptoBulkAll] at hk
  have u0 : n0 ≤ 1048576 := by have := bulk_slice Try.underlying22 h0; omega
  have u1 : n1 ≤ 1048576 := by have := bulk_slice Try.underlying23 h1; omega
  have u2 : n2 ≤ 1048576 := by have := bulk_slice Try.underlying23 h2; omega
  refine (PruneSays.lawB A0 n0 c0 xs0 A1 n1 c1 xs1 A2 n2 c2 xs2 W s0 l0 b0 q0 s1 q1 s2 q2 u0 u1 u2).mono fun e W' ⟨he, hb⟩ => ?_
  exact ⟨_, he, hpost W' hb ⟨_, _, _, rfl⟩⟩

theorem nam : Try.checked.prog.funcNamed Rows.pruneSaysUptoRow.func = some 8 := by kernel_rfl
theorem inst : Try.f8.isInstance Try.checked.prog Rows.pruneSaysUptoRow.origin Rows.pruneSaysUptoRow.targs := of_decide_eq_true (by kernel_rfl)
theorem wrap : Try.f8.isWrapper Try.checked.prog Rows.pruneSaysUptoRow.wrapper Rows.pruneSaysUptoRow.mainSum := by unfold Func.isWrapper; first | (rw [if_pos (by decide +kernel)]; kernel_rfl) | (rw [if_neg (by decide +kernel)]; exact ⟨rfl, rfl⟩)
theorem k1 : (Rows.pruneSaysUptoRow.inPlace == Try.prog.inPlace 8) = true := by kernel_rfl
theorem k2 : (Rows.pruneSaysUptoRow.unfollowed == Try.prog.unfollowed 8) = true := by kernel_rfl
theorem k3 : (Rows.pruneSaysUptoRow.recurses == Try.prog.recurses 8) = true := by kernel_rfl
theorem k4 : (Rows.pruneSaysUptoRow.named == Try.prog.varsNamed 8) = true := by kernel_rfl
theorem clo : joinedFacts Try.checked.prog 8 Try.f8 (Rows.OpenSpec.upto Rows.pruneSaysSpec).bare Rows.pruneSaysUptoRow = true := Facts.closed (by kernel_rfl) k1 k2 k3 k4
theorem proved : Rows.PruneSaysUptoSaid :=
  OpenClaim.holds_of_cond 8 Try.f8 rfl rfl rfl rfl rfl rfl rfl ⟨rfl, rfl, rfl, rfl, rfl⟩ rfl rfl rfl rfl rfl nam Try.func8 clo
    inst wrap
    (fun os started H enc _ F0 => lifted os started H enc F0)
#print axioms proved
end Go.Proofs.Ytdlnglffimcopaa.PruneSaysRow
