/- credencelaw13.digits, walked. Condition: not below 0. -/
import Derived.Test.YtgmchedfgdgenaaHeld
import Derived.Deep.RegionHeld3
namespace Go.Proofs.Ytgmchedfgdgenaa
open Go.RowKit

/-- one digit -/
def dig1 (n : Nat) : ByteArray := ByteArray.extract ⟨#[48, 49, 50, 51, 52, 53, 54, 55, 56, 57]⟩ n (n + 1)
/-- a number's digits -/
def digT (n : Nat) : ByteArray := if n < 10 then dig1 n else digT (n / 10) ++ dig1 (n % 10)
termination_by n
decreasing_by omega
theorem digT_lt {n : Nat} (h : n < 10) : digT n = dig1 n := by rw [digT, if_pos h]
theorem digT_ge {n : Nat} (h : ¬ n < 10) : digT n = digT (n / 10) ++ dig1 (n % 10) := by rw [digT, if_neg h]
theorem dig1_size (n : Nat) : (dig1 n).size ≤ 1 := by unfold dig1; rw [ByteArray.size_extract]; omega
theorem digT_size : ∀ (f n : Nat), n < f → (digT n).size ≤ n + 1
  | 0, n, h => absurd h (Nat.not_lt_zero n)
  | f + 1, n, h => by
    have h1 := dig1_size n
    have h2 := dig1_size (n % 10)
    by_cases h10 : n < 10
    · rw [digT_lt h10]; omega
    · have h3 := digT_size f (n / 10) (by omega)
      rw [digT_ge h10, ByteArray.size_append]
      omega
set_option maxRecDepth 100000 in
set_option maxHeartbeats 200000 in
theorem digits_any : ∀ (f n : Nat), n < f → n < 9223372036854775808 → ∀ (w : World), Calls Try.prog 12 #[.int .i64 (n : Int)] w fun e w' => e = .returned (.string (digT n)) ∧ Below w.heap.size w w'
  | 0, n, h, _, _ => absurd h (Nat.not_lt_zero n)
  | f + 1, n, h, hb, w => by
    by_cases h10 : n < 10
    · rw [digT_lt h10]
      have h1 : ((n : Nat) : Int) < 10 := by omega
      have h2 : (0 : Int) ≤ (n : Nat) := by omega
      go_enter Try.func12, Try.ntmps12
      go_wp2_with fail
      go_ret
      exact ⟨rfl, Below.refl _ _⟩
    · have h1 : ¬ ((n : Nat) : Int) < 10 := by omega
      obtain ⟨k, hk⟩ : ∃ k, k = n % 10 := ⟨_, rfl⟩
      obtain ⟨q, hq⟩ : ∃ q, q = n / 10 := ⟨_, rfl⟩
      have ih := digits_any f q (by omega) (by omega)
      have hD : digT n = digT q ++ dig1 k := by rw [hk, hq]; exact digT_ge h10
      rw [hD]
      have k1 : ((k : Nat) : Int) < 10 := by omega
      have k2 : (0 : Int) ≤ (k : Nat) := by omega
      have k3 : ((k : Nat) : Int) + 1 ≤ 10 := by omega
      have k4 : (0 : Int) ≤ (k : Nat) + 1 := by omega
      have k5 : ((k : Nat) : Int) ≤ (k : Nat) + 1 := by omega
      have e1 : Int.tmod (n : Int) 10 = (k : Nat) := by rw [hk]; rfl
      have e2 : Int.tdiv (n : Int) 10 = (q : Nat) := by rw [hq]; rfl
      have e3 : (n : Int) % 10 = (k : Nat) := by omega
      have e4 : (n : Int) / 10 = (q : Nat) := by omega
      have e5 : IntKind.i64.wrap ((q : Nat) : Int) = (q : Nat) := by simp [IntKind.wrap, IntKind.bits, IntKind.signed]; omega
      have e6 : IntKind.i64.wrap (((k : Nat) : Int) + 1) = (k : Nat) + 1 := by simp [IntKind.wrap, IntKind.bits, IntKind.signed]; omega
      have z1 := digT_size (q + 1) q (by omega)
      have z2 := dig1_size k
      have z3 : (digT q).size + (dig1 k).size ≤ 9223372036854775807 := by omega
      have z4 : ¬ 9223372036854775807 < (digT q).size + (dig1 k).size := by omega
      unfold dig1 at z3 z4
      have z5 : ¬ 9223372036854775807 < (digT q).size + (min (k + 1) 10 - k) := by omega
      have z6 : min (k + 1) 10 = k + 1 := by omega
      have z7 : ¬ 9223372036854775807 < (digT q).size + 1 := by omega
      have z8 : ¬ 9223372036854775807 < (digT q).size + (k + 1 - k) := by omega
      rw [show dig1 k = ByteArray.extract ⟨#[48, 49, 50, 51, 52, 53, 54, 55, 56, 57]⟩ k (k + 1) from rfl]
      have ih := Lib.hid ih
      clear hk hq hD h10 h hb
      go_enter Try.func12, Try.ntmps12
      go_wp2_with fail
      go_region_held3 (fun w' => Below w.heap.size w w') (first | assumption | exact below_refl_drewN _ _ 1 | go_keep)
        (first
          | ((go_at_call 12); (with_reducible refine (ih.out _).mono ?_); (rintro e w1 ⟨rfl, hb1⟩); (have hB : Below w.heap.size w w1 := (below_refl_drewN w.heap.size w 1).trans hb1)))
      go_wp2_with fail
      go_ret
      exact ⟨rfl, by assumption⟩
end Go.Proofs.Ytgmchedfgdgenaa
