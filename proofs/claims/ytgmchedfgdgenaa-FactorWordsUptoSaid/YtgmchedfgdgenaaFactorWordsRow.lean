/- FactorWords: the row: whatever comes in, the call returns true and changes nothing that was there. No condition beyond the row's own. -/
import Derived.Test.YtgmchedfgdgenaaFactorWords
import Derived.Test.YtgmchedfgdgenaaOpen
import Derived.Test.YtgmchedfgdgenaaFacts
import Derived.Test.YtgmchedfgdgenaaBulk
namespace Go.Proofs.Ytgmchedfgdgenaa.FactorWordsRow
open Go.ChangeShapes Go.WideShapes Go.ChangeAt Go.RowKit

set_option maxRecDepth 100000 in
set_option maxHeartbeats 1600000 in
theorem lifted (os : Os) (started : os.Started) (H : Type) (enc : TypeId × Value → H) (F0 : Stop.Interp) :
    ReturnsInHanded {} Try.checked os 6 .any ((Rows.OpenSpec.upto Rows.factorWordsSpec).pre6 enc Try.prog Try.f6 Rows.factorWordsUptoRow.domain false) (((Rows.OpenSpec.upto Rows.factorWordsSpec).at F0).post enc Try.prog Try.f6 false true false false) := by
  refine returnsInHanded_of_cond_sized (C := Try.checked) (s := Rows.OpenSpec.upto Rows.factorWordsSpec) (k := Rows.uptoSmall) (F := F0) rfl own started (by kernel_rfl) Try.func6
    (OpenSpec.witness (enc := enc) (C := Try.checked) (s := Rows.OpenSpec.upto Rows.factorWordsSpec) (k := Rows.uptoSmall) rfl false ⟨#[], #[.agg #[.slice none 0 0, .slice none 0 0, .slice none 0 0], .agg #[.slice none 0 0, .slice none 0 0, .slice none 0 0], .int .i64 0, .agg #[.int .i64 0, .int .i64 0], .slice none 0 0], []⟩ 8 (by kernel_rfl) (by kernel_rfl) (by kernel_rfl) (x := ([.agg [.nil, .nil, .nil], .agg [.nil, .nil, .nil], .lit (.int .i64 0), .agg [.lit (.int .i64 0), .lit (.int .i64 0)], .nil], [], [])) (by kernel_rfl) (by kernel_rfl) (by kernel_rfl)) ?_
  intro W base args ds gs before hval0 hW _ hk0 hsz0 _
  have hsz : (DataW.weightsEach Try.prog (Try.f6.params.toList ++ Rows.factorWordsSpec.plain.varTypes Try.prog) (ds ++ gs)).all (· ≤ reachBytes) = true := hsz0
  clear hsz0
  have hval : ∀ (j : Nat) t v, Try.f6.params[j]? = some t → args[j]? = some v → Value.okWide Try.prog W .any base t v := hval0
  have hW' := hW
  obtain ⟨p, q, hA0, hV, rfl, _, _⟩ := hW
  have hA : DataW.TrodAll enc Try.prog W 0 (fun _ => true) true Try.f6.params.toList args.toList ds p := hA0
  obtain ⟨rfl, rfl⟩ := trodVars_none hV
  have hpost : ∀ W', Below W.heap.size W W' → (∃ d0 d1 d2 d3 d4, ds = [d0, d1, d2, d3, d4]) → ((Rows.OpenSpec.upto Rows.factorWordsSpec).at F0).post enc Try.prog Try.f6 false true false false W args (.bool true) W' := by
    intro W' hb hl
    obtain ⟨d0, d1, d2, d3, d4, rfl⟩ := hl
    exact post_true (tb := 4) laidOut hW' rfl (by kernel_rfl) Try.underlying4 (by
      rw [Try.params6]
      intro t ht
      have ht' : t ∈ ([24, 24, 3, 64, 22] : List TypeId) := ht
      simp only [List.mem_cons, List.not_mem_nil, or_false] at ht'
      rcases ht' with rfl | rfl | rfl | rfl | rfl <;> exact ⟨by kernel_rfl, of_decide_eq_true (by kernel_rfl)⟩) rfl rfl rfl hb
  rw [Try.params6] at hA hval hsz
  obtain ⟨v0, vs0, d0, ds0, p0, q0, hargs, rfl, rfl, h0, r0⟩ := trodAll_cons hA
  obtain ⟨v1, vs1, d1, ds1, p1, q1, rfl, rfl, rfl, h1, r1⟩ := trodAll_cons r0
  obtain ⟨v2, vs2, d2, ds2, p2, q2, rfl, rfl, rfl, h2, r2⟩ := trodAll_cons r1
  obtain ⟨v3, vs3, d3, ds3, p3, q3, rfl, rfl, rfl, h3, r3⟩ := trodAll_cons r2
  obtain ⟨v4, vs4, d4, ds4, p4, q4, rfl, rfl, rfl, h4, r4⟩ := trodAll_cons r3
  obtain ⟨rfl, rfl, rfl⟩ := trodAll_nil r4
  obtain rfl : args = #[v0, v1, v2, v3, v4] := by cases args; simp_all
  have w0 : Wt Try.prog 24 d0 := Wt.each hsz 0 24 d0 rfl rfl
  have w1 : Wt Try.prog 24 d1 := Wt.each hsz 1 24 d1 rfl rfl
  have w2 : Wt Try.prog 3 d2 := Wt.each hsz 2 3 d2 rfl rfl
  have w3 : Wt Try.prog 64 d3 := Wt.each hsz 3 64 d3 rfl rfl
  have w4 : Wt Try.prog 22 d4 := Wt.each hsz 4 22 d4 rfl rfl
  obtain ⟨A0a, n0a, c0a, xs0a, A0b, n0b, c0b, xs0b, A0c, n0c, c0c, xs0c, rfl, s0a, s0b, s0c, b0a, b0b, b0c, m0a, m0b, m0c, q0⟩ := box_ints8 Try.underlying24 rfl rfl rfl (by kernel_rfl) (by kernel_rfl) Try.underlying22 Try.underlying3 (by kernel_rfl) (by kernel_rfl) (hval 0 24 v0 rfl rfl) h0 w0
  obtain ⟨A1a, n1a, c1a, xs1a, A1b, n1b, c1b, xs1b, A1c, n1c, c1c, xs1c, rfl, s1a, s1b, s1c, b1a, b1b, b1c, m1a, m1b, m1c, q1⟩ := box_ints8 Try.underlying24 rfl rfl rfl (by kernel_rfl) (by kernel_rfl) Try.underlying22 Try.underlying3 (by kernel_rfl) (by kernel_rfl) (hval 1 24 v1 rfl rfl) h1 w1
  obtain ⟨x2, rfl, rfl, rfl, q2⟩ := open_int Try.underlying3 (hval 2 3 v2 rfl rfl) h2
  obtain ⟨x3, z3, rfl, q3, r3q⟩ := fix_ints Try.underlying64 Try.underlying3 Try.underlying3 (by kernel_rfl) (by kernel_rfl) (hval 3 64 v3 rfl rfl) h3
  obtain ⟨fu4, y4, g4, k4⟩ := arg_slice Try.underlying22 (hval 4 22 v4 rfl rfl) h4 w4
  obtain ⟨A4, n4, c4, xs4, rfl, s4, b4, l4, q4⟩ := cell_slice (Value.int .i64) _ Try.underlying22 (by kernel_rfl) (of_decide_eq_true (by kernel_rfl)) (fun n c z h _ => cell_int (W := W) Try.underlying3 n c z h) g4 k4
  have hk : Rows.uptoBulkAll ([d0, d1, .lit (.int .i64 x2), d3, d4] : List (DataW H)) ≤ 1048576 := by simpa [Rows.uptoSmall] using hk0
  simp only [Rows.uptoBulkAll] at hk
  have u0 : n0a ≤ 1048576 ∧ n0b ≤ 1048576 ∧ n0c ≤ 1048576 := by have := bulk_box Try.underlying24 rfl rfl rfl (by kernel_rfl) (by kernel_rfl) Try.underlying22 (hval 0 24 _ rfl rfl) h0; omega
  have u1 : n1a ≤ 1048576 ∧ n1b ≤ 1048576 ∧ n1c ≤ 1048576 := by have := bulk_box Try.underlying24 rfl rfl rfl (by kernel_rfl) (by kernel_rfl) Try.underlying22 (hval 1 24 _ rfl rfl) h1; omega
  have u4 : n4 ≤ 1048576 := by have := bulk_slice Try.underlying22 h4; omega
  refine (FactorWords.lawB A0a n0a c0a xs0a A0b n0b c0b xs0b A0c n0c c0c xs0c A1a n1a c1a xs1a A1b n1b c1b xs1b A1c n1c c1c xs1c x2 x3 z3 A4 n4 c4 xs4 W s0a s0b s0c b0a b0b b0c m0a m0b m0c q0 s1a s1b s1c b1a b1b b1c m1a m1b m1c q1 q2 q3 r3q s4 q4 u0 u1 u4).mono fun e W' ⟨he, hb⟩ => ?_
  exact ⟨_, he, hpost W' hb ⟨_, _, _, _, _, rfl⟩⟩

theorem nam : Try.checked.prog.funcNamed Rows.factorWordsUptoRow.func = some 6 := by kernel_rfl
theorem inst : Try.f6.isInstance Try.checked.prog Rows.factorWordsUptoRow.origin Rows.factorWordsUptoRow.targs := of_decide_eq_true (by kernel_rfl)
theorem wrap : Try.f6.isWrapper Try.checked.prog Rows.factorWordsUptoRow.wrapper Rows.factorWordsUptoRow.mainSum := by unfold Func.isWrapper; first | (rw [if_pos (by decide +kernel)]; kernel_rfl) | (rw [if_neg (by decide +kernel)]; exact ⟨rfl, rfl⟩)
theorem k1 : (Rows.factorWordsUptoRow.inPlace == Try.prog.inPlace 6) = true := by kernel_rfl
theorem k2 : (Rows.factorWordsUptoRow.unfollowed == Try.prog.unfollowed 6) = true := by kernel_rfl
theorem k3 : (Rows.factorWordsUptoRow.recurses == Try.prog.recurses 6) = true := by kernel_rfl
theorem k4 : (Rows.factorWordsUptoRow.named == Try.prog.varsNamed 6) = true := by kernel_rfl
theorem clo : joinedFacts Try.checked.prog 6 Try.f6 (Rows.OpenSpec.upto Rows.factorWordsSpec).bare Rows.factorWordsUptoRow = true := Facts.closed (by kernel_rfl) k1 k2 k3 k4
theorem proved : Rows.FactorWordsUptoSaid :=
  OpenClaim.holds_of_cond 6 Try.f6 rfl rfl rfl rfl rfl rfl rfl ⟨rfl, rfl, rfl, rfl, rfl⟩ rfl rfl rfl rfl rfl nam Try.func6 clo
    inst wrap
    (fun os started H enc _ F0 => lifted os started H enc F0)
#print axioms proved
end Go.Proofs.Ytgmchedfgdgenaa.FactorWordsRow
