/- cmp.Compare, cmp.Less, isNaN at string: what they return. No condition. -/
import Derived.Test.YtpacnpiiahchiaaSetMath
namespace Go.Proofs.Ytpacnpiiahchiaa
open Go.RowKit

theorem bl_eq : ∀ (x y : List UInt8), Op.bytesLess x y = decide (x < y)
  | [], [] => by simp [Op.bytesLess]
  | _ :: _, [] => by simp [Op.bytesLess]
  | [], _ :: _ => by simp [Op.bytesLess]
  | a :: x, b :: y => by
    rw [Op.bytesLess, bl_eq x y]
    simp only [List.cons_lt_cons_iff]
    by_cases h1 : a < b <;> by_cases h2 : a = b <;> by_cases h3 : x < y <;> simp [h1, h2, h3]
/-- the order of two strings, byte by byte -/
def cmpS (a b : ByteArray) : Int := if a.toList < b.toList then -1 else if a.toList = b.toList then 0 else 1
theorem cmpS_neg (a b : ByteArray) : (cmpS a b < 0) = (a.toList < b.toList) := by
  unfold cmpS; split
  · rename_i h; simp [h]
  · rename_i h; split <;> simp [h]
theorem cmpS_zero (a b : ByteArray) : (cmpS a b = 0) = (a.toList = b.toList) := by
  unfold cmpS; split
  · rename_i h
    apply propext
    constructor
    · intro h0; omega
    · intro e; rw [e] at h; exact absurd h (List.lt_irrefl _)
  · split <;> simp_all
theorem lt_conn {x y : List UInt8} (h : ¬ x < y) (he : x ≠ y) : y < x := by
  rcases Std.lt_trichotomy x y with h1 | h1 | h1
  · exact absurd h1 h
  · exact absurd h1 he
  · exact h1
theorem cmpokS : CmpOk cmpS := by
  refine ⟨⟨fun x => ?_, fun {x y z} => ?_, fun {x z} => ?_⟩, fun a b => ?_⟩
  · rw [cmpS_neg]; exact List.lt_irrefl _
  · simp only [cmpS_neg]; exact fun h1 h2 => List.lt_trans h1 h2
  · simp only [cmpS_neg]
    intro h y
    by_cases h1 : x.toList < y.toList
    · exact .inl h1
    · by_cases h2 : x.toList = y.toList
      · right; rw [← h2]; exact h
      · right; exact List.lt_trans (lt_conn h1 h2) h
  · rw [cmpS_neg]; unfold cmpS
    by_cases h1 : a.toList < b.toList
    · simp only [h1, if_true]
      constructor
      · intro h; omega
      · intro h; exact absurd (List.lt_trans h1 h) (List.lt_irrefl _)
    · by_cases h2 : a.toList = b.toList
      · have h3 : ¬ b.toList < b.toList := List.lt_irrefl _
        simp [h2, h3]
      · simp only [h1, h2, if_false]
        exact ⟨fun _ => lt_conn h1 h2, fun _ => by omega⟩
theorem nan_s (a : ByteArray) (w : World) : Calls Try.prog 89 #[.string a] w fun e w' => e = .returned (.bool false) ∧ w = w' := by
  go_enter Try.func89, Try.ntmps89
  go_wp2
  go_ret
  exact ⟨by simp, rfl⟩
theorem snan_s (a : ByteArray) (w : World) : Calls Try.prog 107 #[.string a] w fun e w' => e = .returned (.bool false) ∧ w = w' := by
  go_enter Try.func107, Try.ntmps107
  go_wp2
  go_ret
  exact ⟨by simp, rfl⟩
theorem cmp_s (a b : ByteArray) (w : World) : Calls Try.prog 64 #[.string a, .string b] w fun e w' => e = .returned (.int .i64 (cmpS a b)) ∧ w = w' := by
  by_cases h1 : a.toList < b.toList
  · have d1 : Op.bytesLess a.toList b.toList = true := by rw [bl_eq]; simpa using h1
    go_enter Try.func64, Try.ntmps64
    go_wp2_with (go_at_call 89; refine (nan_s _ _).mono ?_; rintro e w' ⟨rfl, rfl⟩)
    go_ret
    exact ⟨ret_int (by simp [cmpS, h1]), rfl⟩
  · have d1 : Op.bytesLess a.toList b.toList = false := by rw [bl_eq]; simpa using h1
    by_cases h2 : a.toList = b.toList
    · have d2 : (a.toList == b.toList) = true := by simpa using h2
      have H := Lib.hid (And.intro h1 h2); clear h1 h2
      go_enter Try.func64, Try.ntmps64
      go_wp2_with (go_at_call 89; refine (nan_s _ _).mono ?_; rintro e w' ⟨rfl, rfl⟩)
      go_ret
      exact ⟨ret_int (by simp [cmpS, H.out.2]), rfl⟩
    · have d2 : (a.toList == b.toList) = false := by simpa using h2
      have H := Lib.hid (And.intro h1 h2); clear h1 h2
      go_enter Try.func64, Try.ntmps64
      go_wp2_with (go_at_call 89; refine (nan_s _ _).mono ?_; rintro e w' ⟨rfl, rfl⟩)
      go_ret
      exact ⟨ret_int (by simp [cmpS, H.out.1, H.out.2]), rfl⟩
/-- less, as the comparison has it -/
def ltbS (a b : ByteArray) : Bool := decide (cmpS a b < 0)
theorem ltb_s (a b : ByteArray) (w : World) : Calls Try.prog 106 #[.string a, .string b] w fun e w' => e = .returned (.bool (ltbS a b)) ∧ w = w' := by
  go_enter Try.func106, Try.ntmps106
  go_wp2_with (go_at_call 89; refine (nan_s _ _).mono ?_; rintro e w' ⟨rfl, rfl⟩)
  go_ret
  exact ⟨ret_bool (by rw [ltbS, bl_eq]; simp only [cmpS_neg]), rfl⟩
end Go.Proofs.Ytpacnpiiahchiaa
