/- slices.BinarySearch at int, walked. Condition: the list rises. -/
import Derived.Test.YtgmchedfgdgenaaSetAll
import Derived.Outline
namespace Go.Proofs.Ytgmchedfgdgenaa
open Go.RowKit
namespace SoI

set_option maxHeartbeats 800000 in
theorem bs_any (A : Option Addr) (n c : Nat) (xs : List Int) (x : Int) (w : World) (hx : Sl (Value.int .i64) w A n xs) (ha : Asc cmpI xs) :
    Calls Try.prog 67 #[.slice A n c, Value.int .i64 x] w fun e w' => ∃ i : Nat, e = .returned (.tuple #[.int .i64 (i : Nat), .bool (isIn cmpI x xs)]) ∧ Place cmpI xs x i ∧ w = w' := by
  have hbig := hx.big
  have HL := Lib.hid hx.len
  go_enter Try.func67, Try.ntmps67
  go_wp2_with fail
  go_loop [7, 8] (fun i j => ∃ (ii jj : Nat), i = .int .i64 (ii : Nat) ∧ j = .int .i64 (jj : Nat) ∧ ii ≤ jj ∧ jj ≤ n ∧ (∀ t, t < ii → cmpI (nth xs t) x < 0) ∧ (∀ t, jj ≤ t → t < n → ltbI (nth xs t) x = false)) (fun i j => (intOf j).toNat - (intOf i).toNat)
  case atStart => exact ⟨0, n, rfl, rfl, Nat.zero_le _, Nat.le_refl _, by intro t ht; omega, by intro t ht ht'; omega⟩
  case round =>
    obtain ⟨ii, jj, rfl, rfl, hij, hj, hlo, hhi⟩ := hrel
    have HLO := Lib.hid (And.intro hlo hhi); clear hlo hhi
    by_cases hlt : ii < jj
    · obtain ⟨h, hh⟩ : ∃ h : Nat, ((ii : Int) + (jj : Int)) / 2 = (h : Int) := ⟨(ii + jj) / 2, by omega⟩
      have hh1 : ii ≤ h := by omega
      have hh2 : h < jj := by omega
      have hhn : h < n := by omega
      obtain ⟨b, off, rfl, hb, hc⟩ := hx.at' (by omega)
      have c1 := hc h hhn
      clear hc
      go_wp2_with (go_at_call 89; refine (ltb_i _ _ _).mono ?_; rintro e w' ⟨rfl, rfl⟩)
      · have hcc : ltbI (nth xs h) x = true := by assumption
        have hc' : cmpI (nth xs h) x < 0 := by simpa [ltbI] using hcc
        refine ⟨⟨h + 1, jj, by go_num, rfl, by omega, by omega, fun t ht => ?_, HLO.out.2⟩, by simp [intOf]; omega⟩
        by_cases e : t = h
        · subst e; exact hc'
        · exact cmpokI.lt_trans (nth_asc ha (by omega) (by rw [HL.out]; omega)) hc'
      · have hcc : ltbI (nth xs h) x = false := by assumption
        refine ⟨⟨ii, h, rfl, by go_num, hh1, by omega, HLO.out.1, fun t ht ht' => ?_⟩, by simp [intOf]; omega⟩
        by_cases e : t = h
        · subst e; exact hcc
        · simp only [ltbI, decide_eq_false_iff_not] at hcc ⊢
          exact fun h1 => hcc (cmpokI.lt_trans (nth_asc ha (by omega) (by rw [HL.out]; omega)) h1)
    · obtain rfl : ii = jj := by omega
      have hp : Place cmpI xs x ii := ⟨by rw [HL.out]; exact hj, HLO.out.1, fun t h1 h2 => by
        have := HLO.out.2 t h1 (by rw [← HL.out]; exact h2)
        simpa [ltbI] using this⟩
      have hin := hp.isIn cmpokI ha
      have HP := Lib.hid (And.intro hp hin); clear hp hin HLO
      by_cases hin : ii < n
      · obtain ⟨b, off, rfl, hb, hc⟩ := hx.at' (by omega)
        have c1 := hc ii hin
        clear hc
        generalize hy : nth xs ii = y at c1
        have HY := Lib.hid hy; clear hy
        rcases (show ((y == x) = true ∧ (cmpI y x == 0) = true) ∨ ((y == x) = false ∧ (cmpI y x == 0) = false) from by simp [cmpI_zero]; omega) with ⟨he, ho⟩ | ⟨he, ho⟩
        all_goals
          go_wp2_with (go_at_call 90; refine (snan_i _ _).mono ?_; rintro e w' ⟨rfl, rfl⟩)
          go_ret2
          refine ⟨ii, ?_, HP.out.1, rfl⟩
          rw [HP.out.2, HY.out, HL.out]
          simp [hin, ho]
      · have hd : decide ((ii : Int) < (n : Int)) = false := by simp; omega
        have hd' : decide (ii < n) = false := by simp; omega
        go_wp2_with fail
        go_ret2
        refine ⟨ii, ?_, HP.out.1, rfl⟩
        rw [HP.out.2, HL.out]
        simp [hin]
end SoI
end Go.Proofs.Ytgmchedfgdgenaa
