/- factor.One[int], walked. No condition. -/
import Derived.Test.YtgmchedfgdgenaaCellsS
namespace Go.Proofs.Ytgmchedfgdgenaa
open Go.RowKit

theorem OwnR.lit1 (w : World) (x : Int) : OwnR (Value.int .i64) (w.alloc (.cells #[.int .i64 x] 3)) w.heap.size 3 (some ⟨w.heap.size, 0, none⟩) 1 1 [x] := by
  have hr : RowAt (Value.int .i64) (w.alloc (.cells #[.int .i64 x] 3)) w.heap.size 3 [x] [] := RowC.new w 3 [.int .i64 x]
  exact OwnR.of_row' hr (Nat.le_refl _) rfl (by unfold maxLen; simp) rfl
set_option maxHeartbeats 400000 in
theorem one_any (x : Int) (w : World) : Calls Try.prog 15 #[.int .i64 x] w fun e w' => ∃ A c, e = .returned (.agg #[.slice none 0 0, .slice none 0 0, .slice A 1 c]) ∧ OwnR (Value.int .i64) w' w.heap.size 3 A 1 c [x] ∧ Below w.heap.size w w' := by
  have H1 := (Held.init w).new 24 [.slice none 0 0, .slice none 0 0, .slice (some ⟨w.heap.size + 1, 0, none⟩) 1 1]
  have H := H1.new 3 [.int .i64 x]
  have ho := OwnR.lit1 (w.alloc (.cells #[.slice none 0 0, .slice none 0 0, .slice (some ⟨w.heap.size + 1, 0, none⟩) 1 1] 24)) x
  rw [show (w.alloc (.cells #[.slice none 0 0, .slice none 0 0, .slice (some ⟨w.heap.size + 1, 0, none⟩) 1 1] 24)).heap.size = w.heap.size + 1 from by simp] at ho
  have c0 := H.has.2.1.cell 0
  have c1 := H.has.2.1.cell 1
  have c2 := H.has.2.1.cell 2
  have HB := Lib.hid (And.intro ho H.bel)
  clear H H1 ho
  go_enter Try.func15, Try.ntmps15
  go_wp2_with fail
  exact bodyPost_ret (v := .agg #[.slice none 0 0, .slice none 0 0, .slice (some ⟨w.heap.size + 1, 0, none⟩) 1 1]) (by simp [results, Try.results15, go_sem, c0, c1, c2]) rfl ⟨_, _, rfl, HB.out.1.mono (by omega), HB.out.2⟩
end Go.Proofs.Ytgmchedfgdgenaa
