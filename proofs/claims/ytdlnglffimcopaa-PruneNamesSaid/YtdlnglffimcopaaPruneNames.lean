/- credencelaw17.PruneNames, walked: it returns true. No condition. -/
import Derived.Test.YtdlnglffimcopaaAliveP
namespace Go.Proofs.Ytdlnglffimcopaa.PruneNames
open Go.RowKit

set_option maxRecDepth 100000 in
set_option maxHeartbeats 400000 in
theorem law (w : World) : Calls Try.prog 7 #[] w fun e w' => e = .returned (.bool true) ∧ Below w.heap.size w w' := by
  obtain ⟨wa, hwa⟩ : ∃ wa : World, wa = w := ⟨_, rfl⟩
  subst hwa
  go_enter Try.func7, Try.ntmps7
  go_wp2_with fail
  refine (alive17_any _).mono ?_
  rintro e w1 ⟨rfl, hb⟩
  have HB := Lib.hid hb
  clear hb
  go_wp2_with fail
  go_ret
  exact ⟨rfl, HB.out⟩
end Go.Proofs.Ytdlnglffimcopaa.PruneNames
