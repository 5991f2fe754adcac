/- radix.Count and the reference's Count over ints, walked: both compute one and the same. Condition: the slice reads as a list. -/
import Derived.Test.YtgmchedfgdgenaaHeld
import Derived.IntWalk
namespace Go.Proofs.Ytgmchedfgdgenaa
open Go.RowKit

/-- the product, as long as it stays within the limit -/
def prodC (l : List Int) : Option Int := l.foldl (fun o s => o.bind fun n => if 2147483647 < n * s then none else some (n * s)) (some 1)
theorem prodC_snoc (l : List Int) (s : Int) : prodC (l ++ [s]) = (prodC l).bind fun n => if 2147483647 < n * s then none else some (n * s) := by
  unfold prodC; rw [List.foldl_append]; rfl
theorem prodC_none (l m : List Int) (h : prodC l = none) : prodC (l ++ m) = none := by
  unfold prodC at h ⊢
  rw [List.foldl_append, h]
  induction m with
  | nil => rfl
  | cons a m ih => exact ih
/-- how many numbers there are, and the error -/
def cntC (l : List Int) : Int × Int := if l.any (· < 0) then (0, 3) else if l.any (· == 0) then (0, 0) else match prodC l with | some n => (n, 0) | none => (0, 4)
theorem any_take_snoc (p : Int → Bool) {l : List Int} {k : Nat} (h : k < l.length) : (l.take (k + 1)).any p = ((l.take k).any p || p (nth l k)) := by
  rw [take_snoc h, List.any_append]; simp
theorem any_up (p : Int → Bool) {l : List Int} {k : Nat} (h : k < l.length) (hp : p (nth l k) = true) : l.any p = true := List.any_eq_true.2 ⟨_, nth_mem h, hp⟩

set_option maxRecDepth 100000 in
set_option maxHeartbeats 1600000 in
theorem count_any (A : Option Addr) (n c : Nat) (xs : List Int) (w : World) (hx : Sl (Value.int .i64) w A n xs) :
    Calls Try.prog 39 #[.slice A n c] w fun e w' => e = .returned (.tuple #[.int .i64 (cntC xs).1, .int .i64 (cntC xs).2]) ∧ w = w' := by
  have hbig := hx.big
  have HI := Lib.hid hx.len
  obtain ⟨wa, hwa⟩ : ∃ wa : World, wa = w := ⟨_, rfl⟩
  subst hwa
  go_enter Try.func39, Try.ntmps39
  go_wp2_with fail
  go_loopw [4, 12] (fun b i wr => ∃ k : Nat, b = .bool ((xs.take k).any (· == 0)) ∧ i = .int .i64 (k : Nat) ∧ k ≤ n ∧ (xs.take k).any (· < 0) = false ∧ wr = wa) (fun _ i _ => n - (intOf i).toNat)
  case atStart => exact ⟨0, by simp, rfl, Nat.zero_le _, by simp, rfl⟩
  case round =>
    obtain ⟨k, rfl, rfl, hk, hno, hwr⟩ := hrel
    have hwr := hwr.symm
    subst hwr
    by_cases hlt : k < n
    · obtain ⟨bb, off, rfl, hbb, hc⟩ := hx.at' (by omega)
      have g1 := hc k hlt
      have hl : k < xs.length := by rw [HI.out]; exact hlt
      have hz := any_take_snoc (· == 0) hl
      have hn := any_take_snoc (· < 0) hl
      rw [hno, Bool.false_or] at hn
      have hup := any_up (· < 0) hl
      have HS := Lib.hid (And.intro hz (And.intro hn hup)); clear hz hn hup hno hc
      generalize hs : nth xs k = s at g1
      have HE := Lib.hid hs; clear hs
      by_cases hneg : s < 0
      · have hcc : cntC xs = (0, 3) := by unfold cntC; rw [if_pos (HS.out.2.2 (by rw [HE.out]; simpa using hneg))]
        have HC := Lib.hid hcc; clear hcc
        go_wp2_with fail
        go_ret2
        exact ⟨by rw [HC.out]; rfl, rfl⟩
      · generalize hbv : (xs.take k).any (· == 0) = bv
        have HB := Lib.hid hbv; clear hbv
        by_cases hs0 : s = 0
        · have HZ := Lib.hid hs0
          subst hs0
          rcases bv
          · go_wp2_with fail
            exact ⟨⟨k + 1, by rw [HS.out.1, HE.out]; simp, by go_num, by omega, by rw [HS.out.2.1, HE.out]; simp, trivial⟩, by simp [intOf]; omega⟩
          · go_wp2_with fail
            exact ⟨⟨k + 1, by rw [HS.out.1, HB.out]; simp, by go_num, by omega, by rw [HS.out.2.1, HE.out]; simp, trivial⟩, by simp [intOf]; omega⟩
        · have d1 : (s == 0) = false := by simpa using hs0
          have hn0 : decide (s < 0) = false := by simpa using hneg
          have HZ := Lib.hid (And.intro d1 hn0)
          rcases bv
          · go_wp2_with fail
            exact ⟨⟨k + 1, by rw [HS.out.1, HB.out, HE.out, HZ.out.1]; simp, by go_num, by omega, by rw [HS.out.2.1, HE.out, HZ.out.2], trivial⟩, by simp [intOf]; omega⟩
          · go_wp2_with fail
            exact ⟨⟨k + 1, by rw [HS.out.1, HB.out]; simp, by go_num, by omega, by rw [HS.out.2.1, HE.out, HZ.out.2], trivial⟩, by simp [intOf]; omega⟩
    · obtain rfl : k = n := by omega
      have e1 : xs.take k = xs := List.take_of_length_le (by rw [HI.out]; omega)
      rw [e1] at hno ⊢
      generalize hbv : xs.any (· == 0) = bv
      rcases bv
      · have hpos : ∀ j, j < k → 1 ≤ nth xs j := by
          intro j hj
          have hm : nth xs j ∈ xs := nth_mem (by rw [HI.out]; exact hj)
          have h1 := List.any_eq_false.1 hno _ hm
          have h2 := List.any_eq_false.1 hbv _ hm
          simp at h1 h2
          omega
        have HB := Lib.hid (And.intro hno (And.intro hbv hpos)); clear hno hbv hpos e1
        go_wp2_with fail
        go_loopw [7, 27] (fun v i wr => ∃ (j : Nat) (acc : Int), v = .int .i64 acc ∧ i = .int .i64 (j : Nat) ∧ j ≤ k ∧ prodC (xs.take j) = some acc ∧ 1 ≤ acc ∧ acc ≤ 2147483647 ∧ wr = wa) (fun _ i _ => k - (intOf i).toNat)
        case atStart => exact ⟨0, 1, rfl, rfl, Nat.zero_le _, rfl, by omega, by omega, rfl⟩
        case round =>
          obtain ⟨j, acc, rfl, rfl, hj, hp, ha1, ha2, hwr⟩ := hrel
          have hwr := hwr.symm
          subst hwr
          by_cases hlt2 : j < k
          · obtain ⟨bb, off, rfl, hbb, hc⟩ := hx.at' (by omega)
            have g1 := hc j hlt2
            have hs1 := HB.out.2.2 j hlt2
            have hsn : prodC (xs.take (j + 1)) = if 2147483647 < acc * nth xs j then none else some (acc * nth xs j) := by rw [take_snoc (by rw [HI.out]; exact hlt2), prodC_snoc, hp]; rfl
            have hsplit : xs = xs.take (j + 1) ++ xs.drop (j + 1) := (List.take_append_drop _ _).symm
            have HS := Lib.hid (And.intro hsn hsplit); clear hsn hsplit hp hc
            generalize hs : nth xs j = s at g1 hs1
            have HE := Lib.hid hs; clear hs
            have hdiv : (2147483647 / acc < s) ↔ 2147483647 < acc * s := by
              rw [Int.ediv_lt_iff_lt_mul (by omega), Int.mul_comm]
            by_cases hov : 2147483647 < acc * s
            · have hd := hdiv.2 hov
              have hcc : cntC xs = (0, 4) := by
                have hnone : prodC xs = none := by rw [HS.out.2]; refine prodC_none _ _ ?_; rw [HS.out.1, HE.out, if_pos hov]
                unfold cntC
                rw [HB.out.1, HB.out.2.1, hnone]; rfl
              have HC := Lib.hid hcc; clear hcc hdiv hov
              go_wp2_with fail
              go_ret2
              exact ⟨by rw [HC.out]; rfl, rfl⟩
            · have hd : ¬ 2147483647 / acc < s := fun h => hov (hdiv.1 h)
              have hm1 : 1 ≤ acc * s := by have := Int.mul_le_mul ha1 hs1 (by omega) (by omega); simpa using this
              have hm2 : acc * s ≤ 2147483647 := by omega
              have hw : IntKind.i64.wrap (acc * s) = acc * s := by rw [IntKind.wrap_i64]; omega
              have HO := Lib.hid (And.intro hov (And.intro hm1 hm2)); clear hov hdiv hm1 hm2
              go_wp2_with fail
              exact ⟨⟨j + 1, acc * s, by first | rfl | rw [hw] | simp [hw], by go_num, by omega, by rw [HS.out.1, HE.out, if_neg HO.out.1], HO.out.2.1, HO.out.2.2, trivial⟩, by simp [intOf]; omega⟩
          · obtain rfl : j = k := by omega
            have hcc : cntC xs = (acc, 0) := by
              rw [List.take_of_length_le (by rw [HI.out]; omega)] at hp
              unfold cntC
              rw [HB.out.1, HB.out.2.1, hp]; rfl
            have HC := Lib.hid hcc; clear hcc hp
            go_wp2_with fail
            go_ret2
            exact ⟨by rw [HC.out]; rfl, rfl⟩
      · have hcc : cntC xs = (0, 0) := by unfold cntC; rw [hno, hbv]; rfl
        have HC := Lib.hid hcc; clear hcc hno hbv e1
        go_wp2_with fail
        go_ret2
        exact ⟨by rw [HC.out]; rfl, rfl⟩

set_option maxRecDepth 100000 in
set_option maxHeartbeats 1600000 in
theorem rcount_any (A : Option Addr) (n c : Nat) (xs : List Int) (w : World) (hx : Sl (Value.int .i64) w A n xs) :
    Calls Try.prog 30 #[.slice A n c] w fun e w' => e = .returned (.tuple #[.int .i64 (cntC xs).1, .int .i64 (cntC xs).2]) ∧ w = w' := by
  have hbig := hx.big
  have HI := Lib.hid hx.len
  obtain ⟨wa, hwa⟩ : ∃ wa : World, wa = w := ⟨_, rfl⟩
  subst hwa
  go_enter Try.func30, Try.ntmps30
  go_wp2_with fail
  go_loopw [4, 5] (fun b i wr => ∃ k : Nat, b = .int .i64 (if (xs.take k).any (· == 0) then 0 else 1) ∧ i = .int .i64 (k : Nat) ∧ k ≤ n ∧ (xs.take k).any (· < 0) = false ∧ wr = wa) (fun _ i _ => n - (intOf i).toNat)
  case atStart => exact ⟨0, by simp, rfl, Nat.zero_le _, by simp, rfl⟩
  case round =>
    obtain ⟨k, rfl, rfl, hk, hno, hwr⟩ := hrel
    have hwr := hwr.symm
    subst hwr
    by_cases hlt : k < n
    · obtain ⟨bb, off, rfl, hbb, hc⟩ := hx.at' (by omega)
      have g1 := hc k hlt
      have hl : k < xs.length := by rw [HI.out]; exact hlt
      have hz := any_take_snoc (· == 0) hl
      have hn := any_take_snoc (· < 0) hl
      rw [hno, Bool.false_or] at hn
      have hup := any_up (· < 0) hl
      have HS := Lib.hid (And.intro hz (And.intro hn hup)); clear hz hn hup hno hc
      generalize hs : nth xs k = s at g1
      have HE := Lib.hid hs; clear hs
      by_cases hneg : s < 0
      · have hcc : cntC xs = (0, 3) := by unfold cntC; rw [if_pos (HS.out.2.2 (by rw [HE.out]; simpa using hneg))]
        have HC := Lib.hid hcc; clear hcc
        generalize (if (xs.take k).any (· == 0) then (0 : Int) else 1) = v4
        go_wp2_with fail
        go_ret2
        exact ⟨by rw [HC.out]; rfl, rfl⟩
      · generalize hbv : (xs.take k).any (· == 0) = bv
        have HB := Lib.hid hbv; clear hbv
        by_cases hs0 : s = 0
        · subst hs0
          go_wp2_with fail
          exact ⟨⟨k + 1, by rw [HS.out.1, HE.out]; simp, by go_num, by omega, by rw [HS.out.2.1, HE.out]; simp, trivial⟩, by simp [intOf]; omega⟩
        · have d1 : (s == 0) = false := by simpa using hs0
          have hn0 : decide (s < 0) = false := by simpa using hneg
          have HZ := Lib.hid (And.intro d1 hn0)
          go_wp2_with fail
          exact ⟨⟨k + 1, by rw [HS.out.1, HB.out, HE.out, HZ.out.1, Bool.or_false], by go_num, by omega, by rw [HS.out.2.1, HE.out, HZ.out.2], trivial⟩, by simp [intOf]; omega⟩
    · obtain rfl : k = n := by omega
      have e1 : xs.take k = xs := List.take_of_length_le (by rw [HI.out]; omega)
      rw [e1] at hno ⊢
      generalize hbv : xs.any (· == 0) = bv
      rcases bv
      · have hpos : ∀ j, j < k → 1 ≤ nth xs j := by
          intro j hj
          have hm : nth xs j ∈ xs := nth_mem (by rw [HI.out]; exact hj)
          have h1 := List.any_eq_false.1 hno _ hm
          have h2 := List.any_eq_false.1 hbv _ hm
          simp at h1 h2
          omega
        have HB := Lib.hid (And.intro hno (And.intro hbv hpos)); clear hno hbv hpos e1
        go_wp2_with fail
        go_loopw [4, 6] (fun v i wr => ∃ (j : Nat) (acc : Int), v = .int .i64 acc ∧ i = .int .i64 (j : Nat) ∧ j ≤ k ∧ prodC (xs.take j) = some acc ∧ 1 ≤ acc ∧ acc ≤ 2147483647 ∧ wr = wa) (fun _ i _ => k - (intOf i).toNat)
        case atStart => exact ⟨0, 1, rfl, rfl, Nat.zero_le _, rfl, by omega, by omega, rfl⟩
        case round =>
          obtain ⟨j, acc, rfl, rfl, hj, hp, ha1, ha2, hwr⟩ := hrel
          have hwr := hwr.symm
          subst hwr
          have hapos : (0 : Int) < acc := by omega
          have hapos' : decide ((0 : Int) < acc) = true := by simpa using hapos
          by_cases hlt2 : j < k
          · obtain ⟨bb, off, rfl, hbb, hc⟩ := hx.at' (by omega)
            have g1 := hc j hlt2
            have hs1 := HB.out.2.2 j hlt2
            have hsn : prodC (xs.take (j + 1)) = if 2147483647 < acc * nth xs j then none else some (acc * nth xs j) := by rw [take_snoc (by rw [HI.out]; exact hlt2), prodC_snoc, hp]; rfl
            have hsplit : xs = xs.take (j + 1) ++ xs.drop (j + 1) := (List.take_append_drop _ _).symm
            have HS := Lib.hid (And.intro hsn hsplit); clear hsn hsplit hp hc
            generalize hs : nth xs j = s at g1 hs1
            have HE := Lib.hid hs; clear hs
            have hge : s ≤ acc * s := by have := Int.mul_le_mul_of_nonneg_right ha1 (show 0 ≤ s by omega); omega
            have hover : 2147483647 < acc * s → cntC xs = (0, 4) := by
              intro hov
              have hnone : prodC xs = none := by rw [HS.out.2]; refine prodC_none _ _ ?_; rw [HS.out.1, HE.out, if_pos hov]
              unfold cntC
              rw [HB.out.1, HB.out.2.1, hnone]; rfl
            by_cases hbig' : 2147483647 < s
            · have HC := Lib.hid (hover (by omega)); clear hover hge
              go_wp2_with fail
              go_ret2
              exact ⟨by rw [HC.out]; rfl, rfl⟩
            · have hle : acc * s ≤ 2147483647 * 2147483647 := Int.mul_le_mul ha2 (by omega) (by omega) (by omega)
              have h1 : 1 ≤ acc * s := by omega
              have hw : IntKind.i64.wrap (acc * s) = acc * s := by rw [IntKind.wrap_i64]; omega
              generalize hq : acc * s = q at *
              by_cases hov : 2147483647 < q
              · have HC := Lib.hid (hover hov); clear hover hge hle
                go_wp2_with fail
                go_ret2
                exact ⟨by rw [HC.out]; rfl, rfl⟩
              · have HO := Lib.hid (And.intro hov hq); clear hover hge hle
                go_wp2_with fail
                exact ⟨⟨j + 1, q, rfl, by go_num, by omega, by rw [HS.out.1, HE.out, HO.out.2, if_neg HO.out.1], by omega, by omega, trivial⟩, by simp [intOf]; omega⟩
          · obtain rfl : j = k := by omega
            have hcc : cntC xs = (acc, 0) := by
              rw [List.take_of_length_le (by rw [HI.out]; omega)] at hp
              unfold cntC
              rw [HB.out.1, HB.out.2.1, hp]; rfl
            have HC := Lib.hid hcc; clear hcc hp
            go_wp2_with fail
            go_ret2
            exact ⟨by rw [HC.out]; rfl, rfl⟩
      · have hcc : cntC xs = (0, 0) := by unfold cntC; rw [hno, hbv]; rfl
        have HC := Lib.hid hcc; clear hcc hno hbv e1
        go_wp2_with fail
        go_loopw [4, 6] (fun v i wr => v = .int .i64 0 ∧ i = .int .i64 0 ∧ wr = wa) (fun _ _ _ => 0)
        case atStart => exact ⟨rfl, rfl, rfl⟩
        case round =>
          obtain ⟨rfl, rfl, hwr⟩ := hrel
          have hwr := hwr.symm
          subst hwr
          by_cases hk0 : 0 < k
          · go_wp2_with fail
            go_ret2
            exact ⟨by rw [HC.out]; rfl, rfl⟩
          · go_wp2_with fail
            go_ret2
            exact ⟨by rw [HC.out]; rfl, rfl⟩
end Go.Proofs.Ytgmchedfgdgenaa
