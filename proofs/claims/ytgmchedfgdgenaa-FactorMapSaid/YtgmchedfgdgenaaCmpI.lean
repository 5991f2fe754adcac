/- cmp.Compare, cmp.Less, isNaN at int: what they return. No condition. -/
import Derived.Test.YtgmchedfgdgenaaSetMath
namespace Go.Proofs.Ytgmchedfgdgenaa
open Go.RowKit

def cmpI (a b : Int) : Int := if a < b then -1 else if b < a then 1 else 0
theorem cmpI_neg (a b : Int) : (cmpI a b < 0) = (a < b) := by
  unfold cmpI; split <;> (try split) <;> simp <;> omega
theorem cmpI_zero (a b : Int) : (cmpI a b = 0) = (a = b) := by
  unfold cmpI; split <;> (try split) <;> simp <;> omega

theorem cmpokI : CmpOk cmpI := by
  refine ⟨⟨fun x => ?_, fun {x y z} => ?_, fun {x z} => ?_⟩, fun a b => ?_⟩
  · rw [cmpI_neg]; omega
  · simp only [cmpI_neg]; omega
  · simp only [cmpI_neg]; omega
  · rw [cmpI_neg]; unfold cmpI; split <;> (try split) <;> simp <;> omega
theorem nan_i (a : Int) (w : World) : Calls Try.prog 88 #[.int .i64 a] w fun e w' => e = .returned (.bool false) ∧ w = w' := by
  have h : (a != a) = false := by simp
  go_enter Try.func88, Try.ntmps88
  go_wp2
  go_ret
  exact ⟨rfl, rfl⟩
theorem snan_i (a : Int) (w : World) : Calls Try.prog 90 #[.int .i64 a] w fun e w' => e = .returned (.bool false) ∧ w = w' := by
  have h : (a != a) = false := by simp
  go_enter Try.func90, Try.ntmps90
  go_wp2
  go_ret
  exact ⟨rfl, rfl⟩
theorem cmp_i (a b : Int) (w : World) : Calls Try.prog 63 #[.int .i64 a, .int .i64 b] w fun e w' => e = .returned (.int .i64 (cmpI a b)) ∧ w = w' := by
  go_enter Try.func63, Try.ntmps63
  go_wp2_with (go_at_call 88; refine (nan_i _ _).mono ?_; rintro e w' ⟨rfl, rfl⟩)
  all_goals go_ret
  all_goals refine ⟨ret_int ?_, rfl⟩
  · have h : a < b := by assumption
    simp [cmpI, h]
  · have h : ¬ a < b := by omega
    have h' : b < a := by assumption
    simp [cmpI, h, h']
  · have h : ¬ a < b := by omega
    have h' : ¬ b < a := by omega
    simp [cmpI, h, h']
theorem less_i (a b : Int) (w : World) : Calls Try.prog 89 #[.int .i64 a, .int .i64 b] w fun e w' => e = .returned (.bool (decide (a < b))) ∧ w = w' := by
  go_enter Try.func89, Try.ntmps89
  go_wp2_with (go_at_call 88; refine (nan_i _ _).mono ?_; rintro e w' ⟨rfl, rfl⟩)
  go_ret
  exact ⟨rfl, rfl⟩
/-- less, as the comparison has it -/
def ltbI (a b : Int) : Bool := decide (cmpI a b < 0)
theorem ltb_i (a b : Int) (w : World) : Calls Try.prog 89 #[.int .i64 a, .int .i64 b] w fun e w' => e = .returned (.bool (ltbI a b)) ∧ w = w' :=
  (less_i a b w).mono fun _ _ h => ⟨by rw [h.1, ltbI]; simp only [cmpI_neg], h.2⟩
end Go.Proofs.Ytgmchedfgdgenaa
