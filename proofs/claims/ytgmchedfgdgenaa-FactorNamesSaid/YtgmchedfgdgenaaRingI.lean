/- ring.Ints.Zero, Add, Mul, walked. No condition. -/
import Derived.Test.YtgmchedfgdgenaaHeld
import Derived.Outline
namespace Go.Proofs.Ytgmchedfgdgenaa
open Go.RowKit

set_option maxHeartbeats 400000 in
theorem zero_i (w : World) : Calls Try.prog 120 #[.agg #[]] w fun e w' => e = .returned (.int .i64 0) ∧ Below w.heap.size w w' := by
  have H := (Held.init w).new 41 []
  have HB := Lib.hid H.bel
  clear H
  go_enter Try.func120, Try.ntmps120
  go_wp2_with fail
  go_ret
  exact ⟨rfl, HB.out⟩
set_option maxHeartbeats 400000 in
theorem add_i (a b : Int) (w : World) : Calls Try.prog 116 #[.agg #[], .int .i64 a, .int .i64 b] w fun e w' => e = .returned (.int .i64 (wrap64 (a + b))) ∧ Below w.heap.size w w' := by
  have H := (Held.init w).new 41 []
  have HB := Lib.hid H.bel
  clear H
  go_enter Try.func116, Try.ntmps116
  go_wp2_with fail
  go_ret
  exact ⟨rfl, HB.out⟩
set_option maxHeartbeats 400000 in
theorem mul_i (a b : Int) (w : World) : Calls Try.prog 117 #[.agg #[], .int .i64 a, .int .i64 b] w fun e w' => e = .returned (.int .i64 (wrap64 (a * b))) ∧ Below w.heap.size w w' := by
  have H := (Held.init w).new 41 []
  have HB := Lib.hid H.bel
  clear H
  go_enter Try.func117, Try.ntmps117
  go_wp2_with fail
  go_ret
  exact ⟨rfl, HB.out⟩
/-- the product, as the ring has it -/
def mulF_i (a b : Int) : Int := wrap64 (a * b)
def MulOk_i (_ _ : Int) : Prop := True
theorem mulC_i (a b : Int) (w : World) (_ : MulOk_i a b) : Calls Try.prog 117 #[.agg #[], .int .i64 a, .int .i64 b] w fun e w' => e = .returned (.int .i64 (mulF_i a b)) ∧ Below w.heap.size w w' := mul_i a b w
/-- the sum, as the ring has it -/
def addF_i (a b : Int) : Int := wrap64 (a + b)
def AddOk_i (_ _ : Int) : Prop := True
theorem addC_i (a b : Int) (w : World) (_ : AddOk_i a b) : Calls Try.prog 116 #[.agg #[], .int .i64 a, .int .i64 b] w fun e w' => e = .returned (.int .i64 (addF_i a b)) ∧ Below w.heap.size w w' := add_i a b w
def zeroF_i : Int := 0
theorem zeroC_i (w : World) : Calls Try.prog 120 #[.agg #[]] w fun e w' => e = .returned (.int .i64 zeroF_i) ∧ Below w.heap.size w w' := zero_i w
end Go.Proofs.Ytgmchedfgdgenaa
