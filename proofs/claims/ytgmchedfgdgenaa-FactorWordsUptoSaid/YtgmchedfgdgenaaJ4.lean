/- Joined by program out of: Count, Place, BsI. What each says stands at its own head. -/
import Derived.Test.YtgmchedfgdgenaaJ1
import Derived.IntWalk
import Derived.Test.YtgmchedfgdgenaaRadix
import Derived.Test.YtgmchedfgdgenaaSetAll
import Derived.Outline
/- radix.Count and the reference's Count over ints, walked: both compute one and the same. Condition: the slice reads as a list. -/
namespace Go.Proofs.Ytgmchedfgdgenaa
open Go.RowKit

/-- the product, as long as it stays within the limit -/
def prodC (l : List Int) : Option Int := l.foldl (fun o s => o.bind fun n => if 2147483647 < n * s then none else some (n * s)) (some 1)
theorem prodC_snoc (l : List Int) (s : Int) : prodC (l ++ [s]) = (prodC l).bind fun n => if 2147483647 < n * s then none else some (n * s) := by
  unfold prodC; rw [List.foldl_append]; rfl
theorem prodC_none (l m : List Int) (h : prodC l = none) : prodC (l ++ m) = none := by
  unfold prodC at h ⊢
  rw [List.foldl_append, h]
  induction m with
  | nil => rfl
  | cons a m ih => exact ih
/-- how many numbers there are, and the error -/
def cntC (l : List Int) : Int × Int := if l.any (· < 0) then (0, 3) else if l.any (· == 0) then (0, 0) else match prodC l with | some n => (n, 0) | none => (0, 4)
theorem any_take_snoc (p : Int → Bool) {l : List Int} {k : Nat} (h : k < l.length) : (l.take (k + 1)).any p = ((l.take k).any p || p (nth l k)) := by
  rw [take_snoc h, List.any_append]; simp
theorem any_up (p : Int → Bool) {l : List Int} {k : Nat} (h : k < l.length) (hp : p (nth l k) = true) : l.any p = true := List.any_eq_true.2 ⟨_, nth_mem h, hp⟩

set_option maxRecDepth 100000 in
set_option maxHeartbeats 1600000 in
theorem count_any (A : Option Addr) (n c : Nat) (xs : List Int) (w : World) (hx : Sl (Value.int .i64) w A n xs) :
    Calls Try.prog 39 #[.slice A n c] w fun e w' => e = .returned (.tuple #[.int .i64 (cntC xs).1, .int .i64 (cntC xs).2]) ∧ w = w' := by
  have hbig := hx.big
  have HI := Lib.hid hx.len
  obtain ⟨wa, hwa⟩ : ∃ wa : World, wa = w := ⟨_, rfl⟩
  subst hwa
  go_enter Try.func39, Try.ntmps39
  go_wp2_with fail
  go_loopw [4, 12] (fun b i wr => ∃ k : Nat, b = .bool ((xs.take k).any (· == 0)) ∧ i = .int .i64 (k : Nat) ∧ k ≤ n ∧ (xs.take k).any (· < 0) = false ∧ wr = wa) (fun _ i _ => n - (intOf i).toNat)
  case atStart => exact ⟨0, by simp, rfl, Nat.zero_le _, by simp, rfl⟩
  case round =>
    obtain ⟨k, rfl, rfl, hk, hno, hwr⟩ := hrel
    have hwr := hwr.symm
    subst hwr
    by_cases hlt : k < n
    · obtain ⟨bb, off, rfl, hbb, hc⟩ := hx.at' (by omega)
      have g1 := hc k hlt
      have hl : k < xs.length := by rw [HI.out]; exact hlt
      have hz := any_take_snoc (· == 0) hl
      have hn := any_take_snoc (· < 0) hl
      rw [hno, Bool.false_or] at hn
      have hup := any_up (· < 0) hl
      have HS := Lib.hid (And.intro hz (And.intro hn hup)); clear hz hn hup hno hc
      generalize hs : nth xs k = s at g1
      have HE := Lib.hid hs; clear hs
      by_cases hneg : s < 0
      · have hcc : cntC xs = (0, 3) := by unfold cntC; rw [if_pos (HS.out.2.2 (by rw [HE.out]; simpa using hneg))]
        have HC := Lib.hid hcc; clear hcc
        go_wp2_with fail
        go_ret2
        exact ⟨by rw [HC.out]; rfl, rfl⟩
      · generalize hbv : (xs.take k).any (· == 0) = bv
        have HB := Lib.hid hbv; clear hbv
        by_cases hs0 : s = 0
        · have HZ := Lib.hid hs0
          subst hs0
          rcases bv
          · go_wp2_with fail
            exact ⟨⟨k + 1, by rw [HS.out.1, HE.out]; simp, by go_num, by omega, by rw [HS.out.2.1, HE.out]; simp, trivial⟩, by simp [intOf]; omega⟩
          · go_wp2_with fail
            exact ⟨⟨k + 1, by rw [HS.out.1, HB.out]; simp, by go_num, by omega, by rw [HS.out.2.1, HE.out]; simp, trivial⟩, by simp [intOf]; omega⟩
        · have d1 : (s == 0) = false := by simpa using hs0
          have hn0 : decide (s < 0) = false := by simpa using hneg
          have HZ := Lib.hid (And.intro d1 hn0)
          rcases bv
          · go_wp2_with fail
            exact ⟨⟨k + 1, by rw [HS.out.1, HB.out, HE.out, HZ.out.1]; simp, by go_num, by omega, by rw [HS.out.2.1, HE.out, HZ.out.2], trivial⟩, by simp [intOf]; omega⟩
          · go_wp2_with fail
            exact ⟨⟨k + 1, by rw [HS.out.1, HB.out]; simp, by go_num, by omega, by rw [HS.out.2.1, HE.out, HZ.out.2], trivial⟩, by simp [intOf]; omega⟩
    · obtain rfl : k = n := by omega
      have e1 : xs.take k = xs := List.take_of_length_le (by rw [HI.out]; omega)
      rw [e1] at hno ⊢
      generalize hbv : xs.any (· == 0) = bv
      rcases bv
      · have hpos : ∀ j, j < k → 1 ≤ nth xs j := by
          intro j hj
          have hm : nth xs j ∈ xs := nth_mem (by rw [HI.out]; exact hj)
          have h1 := List.any_eq_false.1 hno _ hm
          have h2 := List.any_eq_false.1 hbv _ hm
          simp at h1 h2
          omega
        have HB := Lib.hid (And.intro hno (And.intro hbv hpos)); clear hno hbv hpos e1
        go_wp2_with fail
        go_loopw [7, 27] (fun v i wr => ∃ (j : Nat) (acc : Int), v = .int .i64 acc ∧ i = .int .i64 (j : Nat) ∧ j ≤ k ∧ prodC (xs.take j) = some acc ∧ 1 ≤ acc ∧ acc ≤ 2147483647 ∧ wr = wa) (fun _ i _ => k - (intOf i).toNat)
        case atStart => exact ⟨0, 1, rfl, rfl, Nat.zero_le _, rfl, by omega, by omega, rfl⟩
        case round =>
          obtain ⟨j, acc, rfl, rfl, hj, hp, ha1, ha2, hwr⟩ := hrel
          have hwr := hwr.symm
          subst hwr
          by_cases hlt2 : j < k
          · obtain ⟨bb, off, rfl, hbb, hc⟩ := hx.at' (by omega)
            have g1 := hc j hlt2
            have hs1 := HB.out.2.2 j hlt2
            have hsn : prodC (xs.take (j + 1)) = if 2147483647 < acc * nth xs j then none else some (acc * nth xs j) := by rw [take_snoc (by rw [HI.out]; exact hlt2), prodC_snoc, hp]; rfl
            have hsplit : xs = xs.take (j + 1) ++ xs.drop (j + 1) := (List.take_append_drop _ _).symm
            have HS := Lib.hid (And.intro hsn hsplit); clear hsn hsplit hp hc
            generalize hs : nth xs j = s at g1 hs1
            have HE := Lib.hid hs; clear hs
            have hdiv : (2147483647 / acc < s) ↔ 2147483647 < acc * s := by
              rw [Int.ediv_lt_iff_lt_mul (by omega), Int.mul_comm]
            by_cases hov : 2147483647 < acc * s
            · have hd := hdiv.2 hov
              have hcc : cntC xs = (0, 4) := by
                have hnone : prodC xs = none := by rw [HS.out.2]; refine prodC_none _ _ ?_; rw [HS.out.1, HE.out, if_pos hov]
                unfold cntC
                rw [HB.out.1, HB.out.2.1, hnone]; rfl
              have HC := Lib.hid hcc; clear hcc hdiv hov
              go_wp2_with fail
              go_ret2
              exact ⟨by rw [HC.out]; rfl, rfl⟩
            · have hd : ¬ 2147483647 / acc < s := fun h => hov (hdiv.1 h)
              have hm1 : 1 ≤ acc * s := by have := Int.mul_le_mul ha1 hs1 (by omega) (by omega); simpa using this
              have hm2 : acc * s ≤ 2147483647 := by omega
              have hw : IntKind.i64.wrap (acc * s) = acc * s := by rw [IntKind.wrap_i64]; omega
              have HO := Lib.hid (And.intro hov (And.intro hm1 hm2)); clear hov hdiv hm1 hm2
              go_wp2_with fail
              exact ⟨⟨j + 1, acc * s, by first | rfl | rw [hw] | simp [hw], by go_num, by omega, by rw [HS.out.1, HE.out, if_neg HO.out.1], HO.out.2.1, HO.out.2.2, trivial⟩, by simp [intOf]; omega⟩
          · obtain rfl : j = k := by omega
            have hcc : cntC xs = (acc, 0) := by
              rw [List.take_of_length_le (by rw [HI.out]; omega)] at hp
              unfold cntC
              rw [HB.out.1, HB.out.2.1, hp]; rfl
            have HC := Lib.hid hcc; clear hcc hp
            go_wp2_with fail
            go_ret2
            exact ⟨by rw [HC.out]; rfl, rfl⟩
      · have hcc : cntC xs = (0, 0) := by unfold cntC; rw [hno, hbv]; rfl
        have HC := Lib.hid hcc; clear hcc hno hbv e1
        go_wp2_with fail
        go_ret2
        exact ⟨by rw [HC.out]; rfl, rfl⟩

set_option maxRecDepth 100000 in
set_option maxHeartbeats 1600000 in
theorem rcount_any (A : Option Addr) (n c : Nat) (xs : List Int) (w : World) (hx : Sl (Value.int .i64) w A n xs) :
    Calls Try.prog 30 #[.slice A n c] w fun e w' => e = .returned (.tuple #[.int .i64 (cntC xs).1, .int .i64 (cntC xs).2]) ∧ w = w' := by
  have hbig := hx.big
  have HI := Lib.hid hx.len
  obtain ⟨wa, hwa⟩ : ∃ wa : World, wa = w := ⟨_, rfl⟩
  subst hwa
  go_enter Try.func30, Try.ntmps30
  go_wp2_with fail
  go_loopw [4, 5] (fun b i wr => ∃ k : Nat, b = .int .i64 (if (xs.take k).any (· == 0) then 0 else 1) ∧ i = .int .i64 (k : Nat) ∧ k ≤ n ∧ (xs.take k).any (· < 0) = false ∧ wr = wa) (fun _ i _ => n - (intOf i).toNat)
  case atStart => exact ⟨0, by simp, rfl, Nat.zero_le _, by simp, rfl⟩
  case round =>
    obtain ⟨k, rfl, rfl, hk, hno, hwr⟩ := hrel
    have hwr := hwr.symm
    subst hwr
    by_cases hlt : k < n
    · obtain ⟨bb, off, rfl, hbb, hc⟩ := hx.at' (by omega)
      have g1 := hc k hlt
      have hl : k < xs.length := by rw [HI.out]; exact hlt
      have hz := any_take_snoc (· == 0) hl
      have hn := any_take_snoc (· < 0) hl
      rw [hno, Bool.false_or] at hn
      have hup := any_up (· < 0) hl
      have HS := Lib.hid (And.intro hz (And.intro hn hup)); clear hz hn hup hno hc
      generalize hs : nth xs k = s at g1
      have HE := Lib.hid hs; clear hs
      by_cases hneg : s < 0
      · have hcc : cntC xs = (0, 3) := by unfold cntC; rw [if_pos (HS.out.2.2 (by rw [HE.out]; simpa using hneg))]
        have HC := Lib.hid hcc; clear hcc
        generalize (if (xs.take k).any (· == 0) then (0 : Int) else 1) = v4
        go_wp2_with fail
        go_ret2
        exact ⟨by rw [HC.out]; rfl, rfl⟩
      · generalize hbv : (xs.take k).any (· == 0) = bv
        have HB := Lib.hid hbv; clear hbv
        by_cases hs0 : s = 0
        · subst hs0
          go_wp2_with fail
          exact ⟨⟨k + 1, by rw [HS.out.1, HE.out]; simp, by go_num, by omega, by rw [HS.out.2.1, HE.out]; simp, trivial⟩, by simp [intOf]; omega⟩
        · have d1 : (s == 0) = false := by simpa using hs0
          have hn0 : decide (s < 0) = false := by simpa using hneg
          have HZ := Lib.hid (And.intro d1 hn0)
          go_wp2_with fail
          exact ⟨⟨k + 1, by rw [HS.out.1, HB.out, HE.out, HZ.out.1, Bool.or_false], by go_num, by omega, by rw [HS.out.2.1, HE.out, HZ.out.2], trivial⟩, by simp [intOf]; omega⟩
    · obtain rfl : k = n := by omega
      have e1 : xs.take k = xs := List.take_of_length_le (by rw [HI.out]; omega)
      rw [e1] at hno ⊢
      generalize hbv : xs.any (· == 0) = bv
      rcases bv
      · have hpos : ∀ j, j < k → 1 ≤ nth xs j := by
          intro j hj
          have hm : nth xs j ∈ xs := nth_mem (by rw [HI.out]; exact hj)
          have h1 := List.any_eq_false.1 hno _ hm
          have h2 := List.any_eq_false.1 hbv _ hm
          simp at h1 h2
          omega
        have HB := Lib.hid (And.intro hno (And.intro hbv hpos)); clear hno hbv hpos e1
        go_wp2_with fail
        go_loopw [4, 6] (fun v i wr => ∃ (j : Nat) (acc : Int), v = .int .i64 acc ∧ i = .int .i64 (j : Nat) ∧ j ≤ k ∧ prodC (xs.take j) = some acc ∧ 1 ≤ acc ∧ acc ≤ 2147483647 ∧ wr = wa) (fun _ i _ => k - (intOf i).toNat)
        case atStart => exact ⟨0, 1, rfl, rfl, Nat.zero_le _, rfl, by omega, by omega, rfl⟩
        case round =>
          obtain ⟨j, acc, rfl, rfl, hj, hp, ha1, ha2, hwr⟩ := hrel
          have hwr := hwr.symm
          subst hwr
          have hapos : (0 : Int) < acc := by omega
          have hapos' : decide ((0 : Int) < acc) = true := by simpa using hapos
          by_cases hlt2 : j < k
          · obtain ⟨bb, off, rfl, hbb, hc⟩ := hx.at' (by omega)
            have g1 := hc j hlt2
            have hs1 := HB.out.2.2 j hlt2
            have hsn : prodC (xs.take (j + 1)) = if 2147483647 < acc * nth xs j then none else some (acc * nth xs j) := by rw [take_snoc (by rw [HI.out]; exact hlt2), prodC_snoc, hp]; rfl
            have hsplit : xs = xs.take (j + 1) ++ xs.drop (j + 1) := (List.take_append_drop _ _).symm
            have HS := Lib.hid (And.intro hsn hsplit); clear hsn hsplit hp hc
            generalize hs : nth xs j = s at g1 hs1
            have HE := Lib.hid hs; clear hs
            have hge : s ≤ acc * s := by have := Int.mul_le_mul_of_nonneg_right ha1 (show 0 ≤ s by omega); omega
            have hover : 2147483647 < acc * s → cntC xs = (0, 4) := by
              intro hov
              have hnone : prodC xs = none := by rw [HS.out.2]; refine prodC_none _ _ ?_; rw [HS.out.1, HE.out, if_pos hov]
              unfold cntC
              rw [HB.out.1, HB.out.2.1, hnone]; rfl
            by_cases hbig' : 2147483647 < s
            · have HC := Lib.hid (hover (by omega)); clear hover hge
              go_wp2_with fail
              go_ret2
              exact ⟨by rw [HC.out]; rfl, rfl⟩
            · have hle : acc * s ≤ 2147483647 * 2147483647 := Int.mul_le_mul ha2 (by omega) (by omega) (by omega)
              have h1 : 1 ≤ acc * s := by omega
              have hw : IntKind.i64.wrap (acc * s) = acc * s := by rw [IntKind.wrap_i64]; omega
              generalize hq : acc * s = q at *
              by_cases hov : 2147483647 < q
              · have HC := Lib.hid (hover hov); clear hover hge hle
                go_wp2_with fail
                go_ret2
                exact ⟨by rw [HC.out]; rfl, rfl⟩
              · have HO := Lib.hid (And.intro hov hq); clear hover hge hle
                go_wp2_with fail
                exact ⟨⟨j + 1, q, rfl, by go_num, by omega, by rw [HS.out.1, HE.out, HO.out.2, if_neg HO.out.1], by omega, by omega, trivial⟩, by simp [intOf]; omega⟩
          · obtain rfl : j = k := by omega
            have hcc : cntC xs = (acc, 0) := by
              rw [List.take_of_length_le (by rw [HI.out]; omega)] at hp
              unfold cntC
              rw [HB.out.1, HB.out.2.1, hp]; rfl
            have HC := Lib.hid hcc; clear hcc hp
            go_wp2_with fail
            go_ret2
            exact ⟨by rw [HC.out]; rfl, rfl⟩
      · have hcc : cntC xs = (0, 0) := by unfold cntC; rw [hno, hbv]; rfl
        have HC := Lib.hid hcc; clear hcc hno hbv e1
        go_wp2_with fail
        go_loopw [4, 6] (fun v i wr => v = .int .i64 0 ∧ i = .int .i64 0 ∧ wr = wa) (fun _ _ _ => 0)
        case atStart => exact ⟨rfl, rfl, rfl⟩
        case round =>
          obtain ⟨rfl, rfl, hwr⟩ := hrel
          have hwr := hwr.symm
          subst hwr
          by_cases hk0 : 0 < k
          · go_wp2_with fail
            go_ret2
            exact ⟨by rw [HC.out]; rfl, rfl⟩
          · go_wp2_with fail
            go_ret2
            exact ⟨by rw [HC.out]; rfl, rfl⟩
end Go.Proofs.Ytgmchedfgdgenaa
/- factor.place, walked; the count of a table's cells in plain words. Conditions: the lists read; the sum stays within the limit. -/
namespace Go.Proofs.Ytgmchedfgdgenaa
open Go.RowKit

theorem sufP_snoc (l : List Int) (s : Int) : sufP (l ++ [s]) 0 = sufP l 0 * s := by
  unfold sufP
  rw [List.drop_zero, List.drop_zero]
  induction l with
  | nil => simp
  | cons a l ih => rw [List.cons_append, List.foldr_cons, List.foldr_cons, ih, Int.mul_assoc]
theorem prodC_eq {Z : List Int} (hz : ∀ z, z ∈ Z → 1 ≤ z) : prodC Z = if 2147483647 < sufP Z 0 then none else some (sufP Z 0) := by
  have h : ∀ k, k ≤ Z.length → prodC (Z.take k) = if 2147483647 < sufP (Z.take k) 0 then none else some (sufP (Z.take k) 0) := by
    intro k
    induction k with
    | zero => intro _; rfl
    | succ k ih =>
      intro hk
      have h1 := hz _ (nth_mem (show k < Z.length from hk))
      have h2 := sufP_pos (Z := Z.take k) (fun z hz' => hz z (List.mem_of_mem_take hz')) 0
      have h3 := Int.mul_le_mul_of_nonneg_left h1 (show 0 ≤ sufP (Z.take k) 0 by omega)
      rw [Int.mul_one] at h3
      rw [take_snoc hk, prodC_snoc, ih (by omega), sufP_snoc]
      by_cases hq : 2147483647 < sufP (Z.take k) 0
      · rw [if_pos hq, if_pos (by omega)]; rfl
      · rw [if_neg hq]; rfl
  have := h Z.length (Nat.le_refl _)
  rwa [List.take_length] at this
theorem cntC_eq {Z : List Int} (hz : ∀ z, z ∈ Z → 1 ≤ z) : cntC Z = if 2147483647 < sufP Z 0 then (0, 4) else (sufP Z 0, 0) := by
  unfold cntC
  have h1 : Z.any (· < 0) = false := List.any_eq_false.2 fun z h => by have := hz z h; simp; omega
  have h2 : Z.any (· == 0) = false := List.any_eq_false.2 fun z h => by have := hz z h; simp; omega
  rw [h1, h2, prodC_eq hz]
  by_cases hq : 2147483647 < sufP Z 0
  · rw [if_pos hq, if_pos hq]; rfl
  · rw [if_neg hq, if_neg hq]; rfl
theorem nth_dgL {Z : List Int} {a i : Nat} (h : i < Z.length) : nth (dgL Z a) i = dgAt Z a i := by
  unfold dgL
  rw [nth_map _ (by simpa using h)]
  congr 1
  rw [nth_eq (by simpa using h)]; simp
theorem dgL_range {Z : List Int} (hz : ∀ z, z ∈ Z → 1 ≤ z) (a : Nat) {i : Nat} (h : i < Z.length) : 0 ≤ nth (dgL Z a) i ∧ nth (dgL Z a) i < nth Z i := by
  have h1 := hz _ (nth_mem h)
  rw [nth_dgL h]
  unfold dgAt
  have h2 : qF Z a (Z.length - 1 - i) % (nth Z i).toNat < (nth Z i).toNat := Nat.mod_lt _ (by omega)
  omega
set_option maxRecDepth 100000 in
set_option maxHeartbeats 400000 in
theorem place_any (A B : Option Addr) (n c d : Nat) (s v : List Int) (w : World) (h : Sl (Value.int .i64) w A n s) (k : Sl (Value.int .i64) w B n v) (hp : ∀ i, 0 ≤ nth s i * nth v i) (hm : placeF s v n ≤ 2147483647) :
    Calls Try.prog 42 #[.slice A n c, .slice B n d] w fun e w' => e = .returned (.int .i64 (placeF s v n)) ∧ w' = w := by
  have hbig := h.big
  have HX := Lib.hid (And.intro h (And.intro k (And.intro hp hm)))
  clear h k hp hm
  obtain ⟨wa, hwa⟩ : ∃ wa : World, wa = w := ⟨_, rfl⟩
  subst hwa
  go_enter Try.func42, Try.ntmps42
  go_wp2_with fail
  go_loopw [5, 10] (fun a i wr => ∃ t : Nat, t ≤ n ∧ a = .int .i64 (placeF s v t) ∧ i = .int .i64 (t : Int) ∧ wr = wa) (fun _ i _ => n - (intOf i).toNat)
  case atStart => exact ⟨0, Nat.zero_le _, rfl, rfl, rfl⟩
  case round =>
    obtain ⟨t, ht, rfl, rfl, hwr⟩ := hrel
    have hwr := hwr.symm
    subst hwr
    by_cases hlt : t < n
    · obtain ⟨b1, o1, rfl, _, hc1⟩ := HX.out.1.at' (by omega)
      obtain ⟨b2, o2, rfl, _, hc2⟩ := HX.out.2.1.at' (by omega)
      have g1 := hc1 t hlt
      have g2 := hc2 t hlt
      have hs := placeF_succ s v t
      have h0 := HX.out.2.2.1 t
      have h1 := placeF_mono HX.out.2.2.1 (show t + 1 ≤ n from hlt)
      have h2 := placeF_mono HX.out.2.2.1 (Nat.zero_le t)
      have h3 := HX.out.2.2.2
      have e0 : placeF s v 0 = 0 := rfl
      clear hc1 hc2
      generalize hpr : nth s t * nth v t = pr at *
      generalize hpl : placeF s v t = pl at *
      have hw1 : wrap64 (nth s t * nth v t) = pr := by rw [hpr]; unfold wrap64; omega
      have hw2 : wrap64 (pl + pr) = pl + pr := by unfold wrap64; omega
      have hw3 : IntKind.i64.wrap (nth s t * nth v t) = pr := by rw [IntKind.wrap_i64, hpr]; omega
      have hw4 : IntKind.i64.wrap (pl + pr) = pl + pr := by rw [IntKind.wrap_i64]; omega
      have HS := Lib.hid (And.intro hs (And.intro hpr hpl))
      clear hs h0 h1 h2 h3 e0 hpr hpl
      go_wp2_with fail
      go_roundw
      case rel => exact ⟨t + 1, by omega, by rw [HS.out.1], by go_num, trivial⟩
      case measure => simp [intOf]; omega
    · obtain rfl : n = t := by omega
      go_wp2_with fail
      go_ret
      exact ⟨rfl, rfl⟩
end Go.Proofs.Ytgmchedfgdgenaa
/- slices.BinarySearch at int, walked. Condition: the list rises. -/
namespace Go.Proofs.Ytgmchedfgdgenaa
open Go.RowKit
namespace SoI

set_option maxHeartbeats 800000 in
theorem bs_any (A : Option Addr) (n c : Nat) (xs : List Int) (x : Int) (w : World) (hx : Sl (Value.int .i64) w A n xs) (ha : Asc cmpI xs) :
    Calls Try.prog 67 #[.slice A n c, Value.int .i64 x] w fun e w' => ∃ i : Nat, e = .returned (.tuple #[.int .i64 (i : Nat), .bool (isIn cmpI x xs)]) ∧ Place cmpI xs x i ∧ w = w' := by
  have hbig := hx.big
  have HL := Lib.hid hx.len
  go_enter Try.func67, Try.ntmps67
  go_wp2_with fail
  go_loop [7, 8] (fun i j => ∃ (ii jj : Nat), i = .int .i64 (ii : Nat) ∧ j = .int .i64 (jj : Nat) ∧ ii ≤ jj ∧ jj ≤ n ∧ (∀ t, t < ii → cmpI (nth xs t) x < 0) ∧ (∀ t, jj ≤ t → t < n → ltbI (nth xs t) x = false)) (fun i j => (intOf j).toNat - (intOf i).toNat)
  case atStart => exact ⟨0, n, rfl, rfl, Nat.zero_le _, Nat.le_refl _, by intro t ht; omega, by intro t ht ht'; omega⟩
  case round =>
    obtain ⟨ii, jj, rfl, rfl, hij, hj, hlo, hhi⟩ := hrel
    have HLO := Lib.hid (And.intro hlo hhi); clear hlo hhi
    by_cases hlt : ii < jj
    · obtain ⟨h, hh⟩ : ∃ h : Nat, ((ii : Int) + (jj : Int)) / 2 = (h : Int) := ⟨(ii + jj) / 2, by omega⟩
      have hh1 : ii ≤ h := by omega
      have hh2 : h < jj := by omega
      have hhn : h < n := by omega
      obtain ⟨b, off, rfl, hb, hc⟩ := hx.at' (by omega)
      have c1 := hc h hhn
      clear hc
      go_wp2_with (go_at_call 89; refine (ltb_i _ _ _).mono ?_; rintro e w' ⟨rfl, rfl⟩)
      · have hcc : ltbI (nth xs h) x = true := by assumption
        have hc' : cmpI (nth xs h) x < 0 := by simpa [ltbI] using hcc
        refine ⟨⟨h + 1, jj, by go_num, rfl, by omega, by omega, fun t ht => ?_, HLO.out.2⟩, by simp [intOf]; omega⟩
        by_cases e : t = h
        · subst e; exact hc'
        · exact cmpokI.lt_trans (nth_asc ha (by omega) (by rw [HL.out]; omega)) hc'
      · have hcc : ltbI (nth xs h) x = false := by assumption
        refine ⟨⟨ii, h, rfl, by go_num, hh1, by omega, HLO.out.1, fun t ht ht' => ?_⟩, by simp [intOf]; omega⟩
        by_cases e : t = h
        · subst e; exact hcc
        · simp only [ltbI, decide_eq_false_iff_not] at hcc ⊢
          exact fun h1 => hcc (cmpokI.lt_trans (nth_asc ha (by omega) (by rw [HL.out]; omega)) h1)
    · obtain rfl : ii = jj := by omega
      have hp : Place cmpI xs x ii := ⟨by rw [HL.out]; exact hj, HLO.out.1, fun t h1 h2 => by
        have := HLO.out.2 t h1 (by rw [← HL.out]; exact h2)
        simpa [ltbI] using this⟩
      have hin := hp.isIn cmpokI ha
      have HP := Lib.hid (And.intro hp hin); clear hp hin HLO
      by_cases hin : ii < n
      · obtain ⟨b, off, rfl, hb, hc⟩ := hx.at' (by omega)
        have c1 := hc ii hin
        clear hc
        generalize hy : nth xs ii = y at c1
        have HY := Lib.hid hy; clear hy
        rcases (show ((y == x) = true ∧ (cmpI y x == 0) = true) ∨ ((y == x) = false ∧ (cmpI y x == 0) = false) from by simp [cmpI_zero]; omega) with ⟨he, ho⟩ | ⟨he, ho⟩
        all_goals
          go_wp2_with (go_at_call 90; refine (snan_i _ _).mono ?_; rintro e w' ⟨rfl, rfl⟩)
          go_ret2
          refine ⟨ii, ?_, HP.out.1, rfl⟩
          rw [HP.out.2, HY.out, HL.out]
          simp [hin, ho]
      · have hd : decide ((ii : Int) < (n : Int)) = false := by simp; omega
        have hd' : decide (ii < n) = false := by simp; omega
        go_wp2_with fail
        go_ret2
        refine ⟨ii, ?_, HP.out.1, rfl⟩
        rw [HP.out.2, HL.out]
        simp [hin]
end SoI
end Go.Proofs.Ytgmchedfgdgenaa
