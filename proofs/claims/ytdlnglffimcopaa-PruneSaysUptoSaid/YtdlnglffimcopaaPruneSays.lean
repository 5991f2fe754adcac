/- credencelaw17.PruneSays, walked: it returns true. Condition: the lists read. -/
import Derived.Test.YtdlnglffimcopaaSaysAll
namespace Go.Proofs.Ytdlnglffimcopaa
open Go.RowKit

namespace PruneSays
set_option maxRecDepth 100000 in
set_option maxHeartbeats 1600000 in
theorem law (A B C : Option Addr) (n c m1 d1 m2 d2 : Nat) (Ps : List (List Int)) (asked given : List Int) (w : World) (h : Rows (Value.int .i64) w A n Ps) (ha : Sl (Value.int .i64) w B m1 asked) (hg : Sl (Value.int .i64) w C m2 given) :
    Calls Try.prog 8 #[.slice A n c, .slice B m1 d1, .slice C m2 d2] w fun e w' => e = .returned (.bool true) ∧ Below w.heap.size w w' := by
  obtain ⟨wa, hwa⟩ : ∃ wa : World, wa = w := ⟨_, rfl⟩
  subst hwa
  have HL := Lib.hid (And.intro h (And.intro ha hg))
  clear ha hg
  go_enter Try.func8, Try.ntmps8
  go_wp2_with fail
  refine (many_any A n c Ps _ h).mono ?_
  rintro e w' ⟨b, rfl, rfl, hmany⟩
  clear h
  cases b with
  | true =>
    clear hmany
    go_wp2_with fail
    go_ret
    exact ⟨rfl, Below.refl _ _⟩
  | false =>
    obtain ⟨hn14, hr90⟩ := hmany rfl
    have HR := Lib.hid hr90
    clear hmany hr90
    by_cases h1 : m1 ≤ 100
    · by_cases h2 : m2 ≤ 100
      · have hi1 : ¬ (100 : Int) < (m1 : Nat) := by omega
        have hi2 : ¬ (100 : Int) < (m2 : Nat) := by omega
        go_wp2_with fail
        go_loopw [7] (fun i wr => ∃ t : Nat, i = .int .i64 (t : Nat) ∧ t ≤ 5 ∧ Below wa.heap.size wa wr) (fun i _ => 5 - (intOf i).toNat)
        case atStart => exact ⟨0, rfl, by omega, Below.refl _ _⟩
        case round =>
          obtain ⟨t, rfl, ht, hb⟩ := hrel
          obtain ⟨wb, hwb⟩ : ∃ wb : World, wb = wr := ⟨_, rfl⟩
          subst hwb
          by_cases hlt : t < 5
          · have hti : (t : Int) < 5 := by omega
            have hz := hb.size
            have hP := HL.out.1.below (Nat.le_refl _) hb
            have hA := HL.out.2.1.below (Nat.le_refl _) hb
            have hG := HL.out.2.2.below (Nat.le_refl _) hb
            have HB := Lib.hid hb
            clear hb
            go_wp2_with fail
            refine (made_any A B C n c m1 d1 m2 d2 t Ps asked given _ hP hA hG hn14 (fun i hi => by have := HR.out i hi; omega) h1 h2 hlt).mono ?_
            rintro e w9 ⟨rfl, hb9⟩
            have HF := Lib.hid (HB.out.trans (hb9.mono hz))
            clear hb9 hP hA hG
            go_wp2_with fail
            exact ⟨⟨t + 1, by go_num, by omega, HF.out⟩, by simp [intOf]; omega⟩
          · obtain rfl : t = 5 := by omega
            have HF := Lib.hid hb
            clear hb
            go_wp2_with fail
            go_ret
            exact ⟨rfl, HF.out⟩
      · have hi1 : ¬ (100 : Int) < (m1 : Nat) := by omega
        have hi2 : (100 : Int) < (m2 : Nat) := by omega
        go_wp2_with fail
        go_ret
        exact ⟨rfl, Below.refl _ _⟩
    · have hi1 : (100 : Int) < (m1 : Nat) := by omega
      go_wp2_with fail
      go_ret
      exact ⟨rfl, Below.refl _ _⟩
theorem lawB (A : Option Addr) (n c : Nat) (Ps : List (List Int)) (B : Option Addr) (m1 d1 : Nat) (asked : List Int) (C : Option Addr) (m2 d2 : Nat) (given : List Int) (w : World) (h : Rows (Value.int .i64) w A n Ps) (_ : n ≤ c) (_ : n * 24 ≤ 140737488351232) (_ : (∀ i, i < n → (nth Ps i).length * 8 ≤ 140737488351232) ∧ ∀ l ∈ Ps, ∀ x ∈ l, (Lit.int .i64 x).wf = true)
    (ha : Sl (Value.int .i64) w B m1 asked) (_ : ∀ a ∈ asked, (Lit.int .i64 a).wf = true) (hg : Sl (Value.int .i64) w C m2 given) (_ : ∀ a ∈ given, (Lit.int .i64 a).wf = true) (_ : n ≤ 1048576) (_ : m1 ≤ 1048576) (_ : m2 ≤ 1048576) :
    Calls Try.prog 8 #[.slice A n c, .slice B m1 d1, .slice C m2 d2] w fun e w' => e = .returned (.bool true) ∧ Below w.heap.size w w' := law A B C n c m1 d1 m2 d2 Ps asked given w h ha hg
end PruneSays
end Go.Proofs.Ytdlnglffimcopaa
