/- What alive's tables come to. No condition. -/
import Derived.Test.YtgmchedfgdgenaaOutI
import Derived.Test.YtgmchedfgdgenaaSameI
import Derived.Test.YtgmchedfgdgenaaTimesI
namespace Go.Proofs.Ytgmchedfgdgenaa
open Go.RowKit

theorem al_uni : uniL [1] [0] = [0, 1] := by kernel_rfl
theorem al_check1 : checkC [1] [2] 2 = 0 := by kernel_rfl
theorem al_uniZ : uniZ [1] [2] [0] [2] = [2, 2] := by kernel_rfl
theorem al_err : timesErr [1] [2] 2 [0] [2] 2 = 0 := by kernel_rfl
theorem al_suf : sufP [2, 2] 0 = 4 := by kernel_rfl
theorem al_prod : prod_i [1] [2] [3, 4] [0] [2] [1, 2] 4 = [3, 4, 6, 8] := by kernel_rfl
theorem al_out : outErr [0, 1] [2, 2] 4 0 = 0 := by kernel_rfl
theorem al_sum : outL_i [3, 4, 6, 8] 2 2 2 = [9, 12] := by kernel_rfl
theorem al_same : sameT_i [0, 1] [2, 2] [3, 4, 6, 8] [0, 1] [2, 2] [3, 4, 6, 8] = true := by kernel_rfl
end Go.Proofs.Ytgmchedfgdgenaa
