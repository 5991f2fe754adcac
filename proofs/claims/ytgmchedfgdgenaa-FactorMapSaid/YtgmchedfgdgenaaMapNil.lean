/- factor.Map[int,int] of no function, walked. No condition. -/
import Derived.Test.YtgmchedfgdgenaaIsS
namespace Go.Proofs.Ytgmchedfgdgenaa
open Go.RowKit

theorem nilFunc_is (w : World) : (binOp .eql 58 .nilFunc .nilFunc).run Try.prog w = .ok (.bool true) w := by kernel_rfl
set_option maxRecDepth 100000 in
set_option maxHeartbeats 400000 in
theorem map_nil (A1 A2 A3 : Option Addr) (n1 c1 n2 c2 n3 c3 : Nat) (w : World) :
    Calls Try.prog 13 #[.agg #[.slice A1 n1 c1, .slice A2 n2 c2, .slice A3 n3 c3], .nilFunc] w
      fun e w' => e = .returned (.tuple #[.agg #[.slice none 0 0, .slice none 0 0, .slice none 0 0], .int .i64 2]) ∧ Below w.heap.size w w' := by
  have H1 := (Held.init w).new 24 [.slice A1 n1 c1, .slice A2 n2 c2, .slice A3 n3 c3]
  have H := H1.new 24 [.slice none 0 0, .slice none 0 0, .slice none 0 0]
  rw [show (w.alloc (.cells [.slice A1 n1 c1, .slice A2 n2 c2, .slice A3 n3 c3].toArray 24)).heap.size = w.heap.size + 1 from by simp] at H
  clear H1
  have c0 := H.has.1.cell 0
  have c1' := H.has.1.cell 1
  have c2' := H.has.1.cell 2
  have HB := Lib.hid H.bel
  clear H
  have hnf := nilFunc_is
  go_enter Try.func13, Try.ntmps13
  go_wp2_with fail
  exact bodyPost_ret (v := .tuple #[.agg #[.slice none 0 0, .slice none 0 0, .slice none 0 0], .int .i64 2]) (by simp [results, Try.results13, go_sem, c0, c1', c2']) rfl ⟨rfl, HB.out⟩
end Go.Proofs.Ytgmchedfgdgenaa
