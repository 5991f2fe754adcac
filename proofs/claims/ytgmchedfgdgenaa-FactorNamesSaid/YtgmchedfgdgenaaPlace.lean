/- factor.place, walked; the count of a table's cells in plain words. Conditions: the lists read; the sum stays within the limit. -/
import Derived.Test.YtgmchedfgdgenaaTabMath
import Derived.Test.YtgmchedfgdgenaaRadix
import Derived.Test.YtgmchedfgdgenaaCount
namespace Go.Proofs.Ytgmchedfgdgenaa
open Go.RowKit

theorem sufP_snoc (l : List Int) (s : Int) : sufP (l ++ [s]) 0 = sufP l 0 * s := by
  unfold sufP
  rw [List.drop_zero, List.drop_zero]
  induction l with
  | nil => simp
  | cons a l ih => rw [List.cons_append, List.foldr_cons, List.foldr_cons, ih, Int.mul_assoc]
theorem prodC_eq {Z : List Int} (hz : ∀ z, z ∈ Z → 1 ≤ z) : prodC Z = if 2147483647 < sufP Z 0 then none else some (sufP Z 0) := by
  have h : ∀ k, k ≤ Z.length → prodC (Z.take k) = if 2147483647 < sufP (Z.take k) 0 then none else some (sufP (Z.take k) 0) := by
    intro k
    induction k with
    | zero => intro _; rfl
    | succ k ih =>
      intro hk
      have h1 := hz _ (nth_mem (show k < Z.length from hk))
      have h2 := sufP_pos (Z := Z.take k) (fun z hz' => hz z (List.mem_of_mem_take hz')) 0
      have h3 := Int.mul_le_mul_of_nonneg_left h1 (show 0 ≤ sufP (Z.take k) 0 by omega)
      rw [Int.mul_one] at h3
      rw [take_snoc hk, prodC_snoc, ih (by omega), sufP_snoc]
      by_cases hq : 2147483647 < sufP (Z.take k) 0
      · rw [if_pos hq, if_pos (by omega)]; rfl
      · rw [if_neg hq]; rfl
  have := h Z.length (Nat.le_refl _)
  rwa [List.take_length] at this
theorem cntC_eq {Z : List Int} (hz : ∀ z, z ∈ Z → 1 ≤ z) : cntC Z = if 2147483647 < sufP Z 0 then (0, 4) else (sufP Z 0, 0) := by
  unfold cntC
  have h1 : Z.any (· < 0) = false := List.any_eq_false.2 fun z h => by have := hz z h; simp; omega
  have h2 : Z.any (· == 0) = false := List.any_eq_false.2 fun z h => by have := hz z h; simp; omega
  rw [h1, h2, prodC_eq hz]
  by_cases hq : 2147483647 < sufP Z 0
  · rw [if_pos hq, if_pos hq]; rfl
  · rw [if_neg hq, if_neg hq]; rfl
theorem nth_dgL {Z : List Int} {a i : Nat} (h : i < Z.length) : nth (dgL Z a) i = dgAt Z a i := by
  unfold dgL
  rw [nth_map _ (by simpa using h)]
  congr 1
  rw [nth_eq (by simpa using h)]; simp
theorem dgL_range {Z : List Int} (hz : ∀ z, z ∈ Z → 1 ≤ z) (a : Nat) {i : Nat} (h : i < Z.length) : 0 ≤ nth (dgL Z a) i ∧ nth (dgL Z a) i < nth Z i := by
  have h1 := hz _ (nth_mem h)
  rw [nth_dgL h]
  unfold dgAt
  have h2 : qF Z a (Z.length - 1 - i) % (nth Z i).toNat < (nth Z i).toNat := Nat.mod_lt _ (by omega)
  omega
set_option maxRecDepth 100000 in
set_option maxHeartbeats 400000 in
theorem place_any (A B : Option Addr) (n c d : Nat) (s v : List Int) (w : World) (h : Sl (Value.int .i64) w A n s) (k : Sl (Value.int .i64) w B n v) (hp : ∀ i, 0 ≤ nth s i * nth v i) (hm : placeF s v n ≤ 2147483647) :
    Calls Try.prog 42 #[.slice A n c, .slice B n d] w fun e w' => e = .returned (.int .i64 (placeF s v n)) ∧ w' = w := by
  have hbig := h.big
  have HX := Lib.hid (And.intro h (And.intro k (And.intro hp hm)))
  clear h k hp hm
  obtain ⟨wa, hwa⟩ : ∃ wa : World, wa = w := ⟨_, rfl⟩
  subst hwa
  go_enter Try.func42, Try.ntmps42
  go_wp2_with fail
  go_loopw [5, 10] (fun a i wr => ∃ t : Nat, t ≤ n ∧ a = .int .i64 (placeF s v t) ∧ i = .int .i64 (t : Int) ∧ wr = wa) (fun _ i _ => n - (intOf i).toNat)
  case atStart => exact ⟨0, Nat.zero_le _, rfl, rfl, rfl⟩
  case round =>
    obtain ⟨t, ht, rfl, rfl, hwr⟩ := hrel
    have hwr := hwr.symm
    subst hwr
    by_cases hlt : t < n
    · obtain ⟨b1, o1, rfl, _, hc1⟩ := HX.out.1.at' (by omega)
      obtain ⟨b2, o2, rfl, _, hc2⟩ := HX.out.2.1.at' (by omega)
      have g1 := hc1 t hlt
      have g2 := hc2 t hlt
      have hs := placeF_succ s v t
      have h0 := HX.out.2.2.1 t
      have h1 := placeF_mono HX.out.2.2.1 (show t + 1 ≤ n from hlt)
      have h2 := placeF_mono HX.out.2.2.1 (Nat.zero_le t)
      have h3 := HX.out.2.2.2
      have e0 : placeF s v 0 = 0 := rfl
      clear hc1 hc2
      generalize hpr : nth s t * nth v t = pr at *
      generalize hpl : placeF s v t = pl at *
      have hw1 : wrap64 (nth s t * nth v t) = pr := by rw [hpr]; unfold wrap64; omega
      have hw2 : wrap64 (pl + pr) = pl + pr := by unfold wrap64; omega
      have hw3 : IntKind.i64.wrap (nth s t * nth v t) = pr := by rw [IntKind.wrap_i64, hpr]; omega
      have hw4 : IntKind.i64.wrap (pl + pr) = pl + pr := by rw [IntKind.wrap_i64]; omega
      have HS := Lib.hid (And.intro hs (And.intro hpr hpl))
      clear hs h0 h1 h2 h3 e0 hpr hpl
      go_wp2_with fail
      go_roundw
      case rel => exact ⟨t + 1, by omega, by rw [HS.out.1], by go_num, trivial⟩
      case measure => simp [intOf]; omega
    · obtain rfl : n = t := by omega
      go_wp2_with fail
      go_ret
      exact ⟨rfl, rfl⟩
end Go.Proofs.Ytgmchedfgdgenaa
