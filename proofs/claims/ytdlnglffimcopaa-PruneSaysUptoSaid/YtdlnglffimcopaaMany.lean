/- credencelaw17.many, walked: it tells whether there is too much. Condition: the parents read. -/
import Derived.Test.YtdlnglffimcopaaAliveP
namespace Go.Proofs.Ytdlnglffimcopaa
open Go.RowKit

def sumTo (Ps : List (List Int)) (k : Nat) : Nat := ((Ps.take k).map List.length).sum
theorem sumTo_succ {Ps : List (List Int)} {k : Nat} (h : k < Ps.length) : sumTo Ps (k + 1) = sumTo Ps k + (nth Ps k).length := by
  unfold sumTo; rw [take_snoc h]; simp
theorem sumTo_le {Ps : List (List Int)} (B : Nat) : ∀ {k : Nat}, k ≤ Ps.length → (∀ i, i < Ps.length → (nth Ps i).length ≤ B) → sumTo Ps k ≤ k * B
  | 0, _, _ => by simp [sumTo]
  | k + 1, h, hb => by
    rw [sumTo_succ (by omega)]
    have h1 := sumTo_le B (k := k) (by omega) hb
    have h2 := hb k (by omega)
    rw [Nat.add_mul]; omega
theorem sumTo_row {Ps : List (List Int)} : ∀ {k i : Nat}, k ≤ Ps.length → i < k → (nth Ps i).length ≤ sumTo Ps k
  | 0, _, _, h => by omega
  | k + 1, i, hk, h => by
    rw [sumTo_succ (by omega)]
    rcases Nat.lt_or_ge i k with h1 | h1
    · have := sumTo_row (Ps := Ps) (k := k) (by omega) h1; omega
    · obtain rfl : i = k := by omega
      omega
def ManyPost (n : Nat) (Ps : List (List Int)) (w : World) (e : Ending) (w' : World) : Prop :=
  ∃ b, e = .returned (.bool b) ∧ w = w' ∧ (b = false → n ≤ 14 ∧ ∀ i, i < Ps.length → (nth Ps i).length ≤ 90)
set_option maxRecDepth 100000 in
set_option maxHeartbeats 800000 in
theorem many_any (A : Option Addr) (n c : Nat) (Ps : List (List Int)) (w : World) (h : Rows (Value.int .i64) w A n Ps) : Calls Try.prog 30 #[.slice A n c] w (ManyPost n Ps w) := by
  have hbig := h.big
  have hrb : ∀ i, i < Ps.length → (nth Ps i).length ≤ 140737488351232 := fun i hi => by
    obtain ⟨_, _, _, _, _, _, _, _, hs⟩ := h.row (i := i) (by rw [← h.len]; exact hi)
    have := hs.len; have := hs.big; omega
  obtain ⟨wa, hwa⟩ : ∃ wa : World, wa = w := ⟨_, rfl⟩
  subst hwa
  have HI := Lib.hid (And.intro h.len (And.intro hrb h))
  clear hrb h
  go_enter Try.func30, Try.ntmps30
  go_wp2_with fail
  go_loop [3, 4] (fun s i => ∃ k q : Nat, i = .int .i64 (k : Nat) ∧ s = .int .i64 (q : Nat) ∧ k ≤ n ∧ k ≤ 15 ∧ q = sumTo Ps k ∧ q ≤ 2111062325268480) (fun _ i => n - (intOf i).toNat)
  case atStart => exact ⟨0, 0, rfl, rfl, Nat.zero_le _, by omega, by simp [sumTo], by omega⟩
  case round =>
    obtain ⟨k, q, rfl, rfl, hk, hk15, hq, hqb⟩ := hrel
    by_cases hgo : k < n ∧ k ≤ 14
    · obtain ⟨h1, h2⟩ := hgo
      have hi1 : ((k : Nat) : Int) < (n : Nat) := by omega
      have hi2 : ((k : Nat) : Int) ≤ 14 := by omega
      obtain ⟨b, off, R, m, dr, rfl, hbl, hcell, hrow⟩ := HI.out.2.2.row h1
      have hrb := hrow.big
      have hkl : k < Ps.length := by rw [HI.out.1]; exact h1
      have hs := sumTo_succ hkl
      rw [← hq, hrow.len] at hs
      have hle : q + m ≤ 2111062325268480 := by
        rw [← hs]
        have := sumTo_le 140737488351232 (Ps := Ps) (k := k + 1) (by omega) HI.out.2.1
        omega
      have HS := Lib.hid hs
      clear hs hrow hq
      go_wp2_with fail
      go_round
      case rel => exact ⟨k + 1, q + m, by go_num, by go_num, by omega, by omega, HS.out.symm, hle⟩
      case measure => simp [intOf]; omega
    · by_cases h1 : k < n
      · have hi1 : ((k : Nat) : Int) < (n : Nat) := by omega
        have hi2 : ¬ ((k : Nat) : Int) ≤ 14 := by omega
        have hi3 : (14 : Int) < (n : Nat) := by omega
        clear hq
        go_wp2_with fail
        go_ret
        exact ⟨true, rfl, rfl, fun h => by cases h⟩
      · obtain rfl : n = k := by omega
        have HQ := Lib.hid hq
        clear hq
        have hi1 : ¬ ((n : Nat) : Int) < (n : Nat) := by omega
        by_cases h14 : n ≤ 14
        · have hi3 : ¬ (14 : Int) < (n : Nat) := by omega
          by_cases h90 : q ≤ 90
          · have hi4 : ¬ (90 : Int) < (q : Nat) := by omega
            go_wp2_with fail
            go_ret
            exact ⟨false, by first | rfl | (exact ret_bool (by simp; omega)), rfl, fun _ => ⟨h14, fun i hi => by
              have := sumTo_row (Ps := Ps) (k := n) (i := i) (by rw [HI.out.1]; exact Nat.le_refl _) (by rw [← HI.out.1]; exact hi)
              have := HQ.out
              omega⟩⟩
          · have hi4 : (90 : Int) < (q : Nat) := by omega
            go_wp2_with fail
            go_ret
            exact ⟨true, by first | rfl | (exact ret_bool (by simp; omega)), rfl, fun h => by cases h⟩
        · have hi3 : (14 : Int) < (n : Nat) := by omega
          go_wp2_with fail
          go_ret
          exact ⟨true, rfl, rfl, fun h => by cases h⟩
/-- parents with a new point above v, the first k -/
def widTo (Ps : List (List Int)) (v k : Nat) : List (List Int) := (List.range k).map fun i => if i = v then nth Ps i ++ [(Ps.length : Int)] else nth Ps i
theorem widTo_succ (Ps : List (List Int)) (v k : Nat) : widTo Ps v (k + 1) = widTo Ps v k ++ [if k = v then nth Ps k ++ [(Ps.length : Int)] else nth Ps k] := by
  unfold widTo; rw [List.range_succ, List.map_append]; rfl
theorem widTo_length (Ps : List (List Int)) (v k : Nat) : (widTo Ps v k).length = k := by unfold widTo; simp
theorem widTo_all {Ps : List (List Int)} {v : Nat} (hv : v < Ps.length) : widTo Ps v Ps.length ++ [[]] = widerP Ps v := by
  unfold widerP
  congr 1
  refine nth_ext (by rw [widTo_length, List.length_set]) fun j hj => ?_
  rw [widTo_length] at hj
  unfold widTo
  rw [nth_map _ (by simpa using hj), show nth (List.range Ps.length) j = j from by rw [nth_eq (by simpa using hj)]; simp]
  by_cases e : j = v
  · subst e; rw [if_pos rfl, nth_set_same hj]
  · rw [if_neg e, nth_set_other (fun h => e h.symm)]
end Go.Proofs.Ytdlnglffimcopaa
