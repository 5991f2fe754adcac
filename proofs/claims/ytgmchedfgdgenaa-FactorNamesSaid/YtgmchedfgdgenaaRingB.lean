/- ring.Bools.Mul, walked. No condition. -/
import Derived.Test.YtgmchedfgdgenaaRingI
import Derived.Test.YtgmchedfgdgenaaMem
namespace Go.Proofs.Ytgmchedfgdgenaa
open Go.RowKit

theorem eiB : EI Try.prog 48 4 (.bool false) 1 := .mk' Try.underlying48 (by kernel_rfl) rfl (by omega)
/-- the product, as the ring has it -/
def mulF_b (a b : Bool) : Bool := a && b
def MulOk_b (_ _ : Bool) : Prop := True
set_option maxHeartbeats 400000 in
theorem mulC_b (a b : Bool) (w : World) (_ : MulOk_b a b) : Calls Try.prog 127 #[.agg #[], .bool a, .bool b] w fun e w' => e = .returned (.bool (mulF_b a b)) ∧ Below w.heap.size w w' := by
  have H := (Held.init w).new 53 []
  have HB := Lib.hid H.bel
  clear H
  unfold mulF_b
  rcases a with _ | _
  · go_enter Try.func127, Try.ntmps127
    go_wp2_with fail
    go_ret
    exact ⟨rfl, HB.out⟩
  · go_enter Try.func127, Try.ntmps127
    go_wp2_with fail
    go_ret
    exact ⟨by simp, HB.out⟩
end Go.Proofs.Ytgmchedfgdgenaa
