/- factor.Check and the reference's Check of a table of ints, walked: both compute one and the same. Conditions: the lists read. -/
import Derived.Test.YtgmchedfgdgenaaJ4
import Derived.Deep.DeepCutAuto
import Derived.Deep.QuietTactic
import Derived.BigQuiet
namespace Go.Proofs.Ytgmchedfgdgenaa
open Go.RowKit

/-- the scope rises from 0 on, the sizes are 1 or more, as far as place k -/
def okAt (S Z : List Int) (k : Nat) : Bool := (List.range k).all fun j => decide (0 ≤ nth S j) && (j == 0 || decide (nth S (j - 1) < nth S j)) && decide (1 ≤ nth Z j)
theorem okAt_succ (S Z : List Int) (k : Nat) : okAt S Z (k + 1) = (okAt S Z k && (decide (0 ≤ nth S k) && (k == 0 || decide (nth S (k - 1) < nth S k)) && decide (1 ≤ nth Z k))) := by
  unfold okAt; rw [List.range_succ, List.all_append]; simp
/-- why a table may not be -/
def checkC (S Z : List Int) (cells : Int) : Int :=
  if S.length ≠ Z.length then 60 else if okAt S Z S.length = false then 60 else if (cntC Z).2 ≠ 0 then (cntC Z).2 else if (cntC Z).1 ≠ cells then 60 else 0
theorem okAt_down (S Z : List Int) : ∀ (n k : Nat), k ≤ n → okAt S Z k = false → okAt S Z n = false
  | 0, k, h, h0 => by obtain rfl : k = 0 := by omega
                      exact h0
  | n + 1, k, h, h0 => by
    rcases Nat.lt_or_ge n k with h1 | h1
    · obtain rfl : k = n + 1 := by omega
      exact h0
    · rw [okAt_succ, okAt_down S Z n k h1 h0]; rfl
/-- the variable ahead of place k -/
def aheadC (S : List Int) (k : Nat) : Int := if k = 0 then -1 else nth S (k - 1)
theorem okAt_step {S Z : List Int} {k : Nat} (h : okAt S Z k = true) : okAt S Z (k + 1) = (decide (aheadC S k < nth S k) && decide (1 ≤ nth Z k)) := by
  rw [okAt_succ, h, Bool.true_and]
  congr 1
  unfold aheadC
  rcases k with _ | k
  · rw [Bool.eq_iff_iff]; simp; omega
  · rw [okAt_succ] at h
    simp only [Bool.and_eq_true, decide_eq_true_eq] at h
    have h0 := h.2.1.1
    rw [Bool.eq_iff_iff]
    simp
    omega

set_option maxRecDepth 100000 in
set_option maxHeartbeats 1600000 in
theorem check_any (A1 A2 A3 : Option Addr) (n1 c1 n2 c2 n3 c3 : Nat) (S Z : List Int) (w : World) (hS : Sl (Value.int .i64) w A1 n1 S) (hZ : Sl (Value.int .i64) w A2 n2 Z) (_ : n3 ≤ 140737488351232) :
    Calls Try.prog 31 #[.agg #[.slice A1 n1 c1, .slice A2 n2 c2, .slice A3 n3 c3]] w fun e w' => e = .returned (.int .i64 (checkC S Z n3)) ∧ Below w.heap.size w w' := by
  have hb1 := hS.big
  have hb2 := hZ.big
  have HI := Lib.hid (And.intro hS.len hZ.len)
  have H1 := (((Held.init w).sl hZ).sl hS).new 24 [.slice A1 n1 c1, .slice A2 n2 c2, .slice A3 n3 c3]
  have r0 := H1.has.1.cell 0
  have r1 := H1.has.1.cell 1
  have r2 := H1.has.1.cell 2
  have hS1 := H1.has.2.1
  have hZ1 := H1.has.2.2.1
  have HB := Lib.hid H1.bel
  clear H1 hS hZ
  go_enter Try.func31, Try.ntmps31
  by_cases hne : n1 = n2
  · subst hne
    go_upto_region 3 with fail
    generalize hp : w.heap.size = p at *
    generalize w.alloc (.cells #[.slice A1 n1 c1, .slice A2 n1 c2, .slice A3 n3 c3] 24) = wb at *
    go_wp2_with fail
    go_loopw [3, 18] (fun a i wr => ∃ k : Nat, a = .int .i64 (aheadC S k) ∧ i = .int .i64 (k : Nat) ∧ k ≤ n1 ∧ okAt S Z k = true ∧ wr = wb) (fun _ i _ => n1 - (intOf i).toNat)
    case atStart => exact ⟨0, rfl, rfl, Nat.zero_le _, rfl, rfl⟩
    case round =>
      obtain ⟨k, rfl, rfl, hk, hok, hwr⟩ := hrel
      have hwr := hwr.symm
      subst hwr
      by_cases hlt : k < n1
      · obtain ⟨bs, os, rfl, _, hcs⟩ := hS1.at' (by omega)
        obtain ⟨bz, oz, rfl, _, hcz⟩ := hZ1.at' (by omega)
        have g1 := hcs k hlt
        have g2 := hcz k hlt
        have hst := okAt_step hok
        have hah : aheadC S (k + 1) = nth S k := by unfold aheadC; simp
        have hbad : okAt S Z (k + 1) = false → checkC S Z n3 = 60 := fun h => by
          unfold checkC
          rw [if_neg (by rw [HI.out.1, HI.out.2]; simp), if_pos (okAt_down S Z S.length (k + 1) (by rw [HI.out.1]; omega) h)]
        have HS := Lib.hid (And.intro hst (And.intro hah hbad)); clear hst hah hbad hok hcs hcz
        generalize hs : nth S k = s at g1
        generalize hz : nth Z k = z at g2
        generalize ha : aheadC S k = a
        have HE := Lib.hid (And.intro hs (And.intro hz ha)); clear hs hz ha
        by_cases hle : s ≤ a
        · have HC := Lib.hid (HS.out.2.2 (by rw [HS.out.1, HE.out.1, HE.out.2.1, HE.out.2.2, decide_eq_false (by omega)]; rfl))
          go_wp2_with fail
          go_ret
          exact ⟨ret_int HC.out.symm, HB.out⟩
        · have hle' : decide (s ≤ a) = false := by simpa using hle
          by_cases hz1 : z < 1
          · have HC := Lib.hid (HS.out.2.2 (by rw [HS.out.1, HE.out.1, HE.out.2.1, HE.out.2.2, decide_eq_false (show ¬ 1 ≤ z by omega), Bool.and_false]))
            go_wp2_with fail
            go_ret
            exact ⟨ret_int HC.out.symm, HB.out⟩
          · have hok2 : okAt S Z (k + 1) = true := by rw [HS.out.1, HE.out.1, HE.out.2.1, HE.out.2.2, decide_eq_true (show a < s by omega), decide_eq_true (show 1 ≤ z by omega)]; rfl
            have HO := Lib.hid hok2; clear hok2
            go_wp2_with fail
            exact ⟨⟨k + 1, by rw [HS.out.2.1, HE.out.1], by go_num, by omega, HO.out, trivial⟩, by simp [intOf]; omega⟩
      · obtain rfl : k = n1 := by omega
        have hcc : checkC S Z n3 = if (cntC Z).2 ≠ 0 then (cntC Z).2 else if (cntC Z).1 ≠ n3 then 60 else 0 := by
          unfold checkC
          rw [if_neg (by rw [HI.out.1, HI.out.2]; simp), if_neg (by rw [HI.out.1, hok]; simp)]
        have HC := Lib.hid hcc; clear hcc hok
        go_wp2_with fail
        refine (count_any A2 k c2 Z _ hZ1).mono ?_
        rintro e wx ⟨rfl, rfl⟩
        generalize hq : cntC Z = q
        rw [hq] at HC
        obtain ⟨q1, q2⟩ := q
        simp only at HC ⊢
        have HQ := Lib.hid hq; clear hq
        by_cases h2 : q2 = 0
        · subst h2
          by_cases h3' : q1 = n3
          · subst h3'
            go_wp2_with fail
            go_ret
            exact ⟨ret_int (by rw [HC.out]; simp), by first | exact HB.out | (rw [hp]; exact HB.out)⟩
          · go_wp2_with fail
            go_ret
            exact ⟨ret_int (by rw [HC.out]; simp [h3']), by first | exact HB.out | (rw [hp]; exact HB.out)⟩
        · go_wp2_with fail
          go_ret
          exact ⟨ret_int (by rw [HC.out]; simp [h2]), by first | exact HB.out | (rw [hp]; exact HB.out)⟩
  · have hne' : ¬ n2 = n1 := fun h => hne h.symm
    have hcc : checkC S Z n3 = 60 := by unfold checkC; rw [if_pos (by rw [HI.out.1, HI.out.2]; exact hne)]
    have HC := Lib.hid hcc; clear hcc
    go_wp2_with fail
    go_ret
    exact ⟨ret_int HC.out.symm, HB.out⟩

set_option maxRecDepth 100000 in
set_option maxHeartbeats 3200000 in
theorem rcheck_any (A1 A2 : Option Addr) (n1 c1 n2 c2 : Nat) (m : Int) (S Z : List Int) (w : World) (hS : Sl (Value.int .i64) w A1 n1 S) (hZ : Sl (Value.int .i64) w A2 n2 Z) :
    Calls Try.prog 8 #[.agg #[.slice A1 n1 c1, .slice A2 n2 c2, .int .i64 m]] w fun e w' => e = .returned (.int .i64 (checkC S Z m)) ∧ Below w.heap.size w w' := by
  have hb1 := hS.big
  have hb2 := hZ.big
  have HI := Lib.hid (And.intro hS.len hZ.len)
  have H1 := (((Held.init w).sl hZ).sl hS).new 29 [.slice A1 n1 c1, .slice A2 n2 c2, .int .i64 m]
  have r0 := H1.has.1.cell 0
  have r1 := H1.has.1.cell 1
  clear hS hZ
  go_enter Try.func8, Try.ntmps8
  by_cases hne : n1 = n2
  · subst hne
    go_upto_region 3 with fail
    generalize hp : w.heap.size = p at *
    generalize w.alloc (.cells #[.slice A1 n1 c1, .slice A2 n1 c2, .int .i64 m] 29) = wb at *
    go_wp2_with fail
    go_loopw [3] (fun i wr => ∃ k d : Nat, i = .int .i64 (k : Nat) ∧ k ≤ n1 ∧ okAt S Z k = true ∧ wr = wb.drewN d) (fun i _ => n1 - (intOf i).toNat)
    case atStart => exact ⟨0, 0, rfl, Nat.zero_le _, rfl, rfl⟩
    case round =>
      obtain ⟨k, d, rfl, hk, hok, hwr⟩ := hrel
      have H2 := H1.drewN d
      rw [← hwr] at H2
      clear r0 r1
      have r0 := H2.has.1.cell 0
      have r1 := H2.has.1.cell 1
      have r2 := H2.has.1.cell 2
      by_cases hlt : k < n1
      · obtain ⟨bs, os, rfl, _, hcs⟩ := H2.has.2.1.at' (by omega)
        obtain ⟨bz, oz, rfl, _, hcz⟩ := H2.has.2.2.1.at' (by omega)
        have g1 := hcs k hlt
        have g2 := hcz k hlt
        have g3 := hcs (k - 1) (by omega)
        have hst := okAt_step hok
        have hbad : okAt S Z (k + 1) = false → checkC S Z m = 60 := fun h => by
          unfold checkC
          rw [if_neg (by rw [HI.out.1, HI.out.2]; simp), if_pos (okAt_down S Z S.length (k + 1) (by rw [HI.out.1]; omega) h)]
        have hprev : 0 < k → 0 ≤ nth S (k - 1) := by
          intro h0
          obtain ⟨j, rfl⟩ : ∃ j, k = j + 1 := ⟨k - 1, by omega⟩
          rw [okAt_succ] at hok
          simp only [Bool.and_eq_true, decide_eq_true_eq] at hok
          simpa using hok.2.1.1
        have HS := Lib.hid (And.intro hst (And.intro hbad (And.intro hwr H2))); clear hst hbad hok hcs hcz hwr H2
        have q1 : (0 : Int) ≤ (k : Nat) := by omega
        have q2 : ((k : Nat) : Int) < n1 := by omega
        generalize hs : nth S k = s at g1
        generalize hz : nth Z k = z at g2
        rcases Nat.eq_zero_or_pos k with rfl | hk0
        · have ha : aheadC S 0 = -1 := rfl
          have HE := Lib.hid (And.intro hs (And.intro hz ha)); clear hs hz ha g3 hprev
          simp only [Nat.add_zero] at g1 g2
          have q5 : decide ((0 : Int) < ((0 : Nat) : Int)) = false := by decide
          have q6 : decide (0 < (0 : Nat)) = false := by decide
          by_cases hs0 : s < 0
          · have hs0' : decide (s < 0) = true := by simpa using hs0
            have HC := Lib.hid (HS.out.2.1 (by rw [HS.out.1, HE.out.1, HE.out.2.1, HE.out.2.2, decide_eq_false (by omega)]; rfl))
            go_wp2_with fail
            go_quiet (fail)
            go_wp2_with fail
            go_ret
            exact ⟨ret_int HC.out.symm, by first | exact below_drewN HS.out.2.2.2.bel nq | (rw [hp]; exact below_drewN HS.out.2.2.2.bel nq)⟩
          · have hs0' : decide (s < 0) = false := by simpa using hs0
            by_cases hz1 : z < 1
            · have hz1' : decide (z < 1) = true := by simpa using hz1
              have HC := Lib.hid (HS.out.2.1 (by rw [HS.out.1, HE.out.1, HE.out.2.1, HE.out.2.2, decide_eq_false (show ¬ 1 ≤ z by omega), Bool.and_false]))
              go_wp2_with fail
              go_quiet (fail)
              go_wp2_with fail
              go_ret
              exact ⟨ret_int HC.out.symm, by first | exact below_drewN HS.out.2.2.2.bel nq | (rw [hp]; exact below_drewN HS.out.2.2.2.bel nq)⟩
            · have hz1' : decide (z < 1) = false := by simpa using hz1
              have hok2 : okAt S Z (0 + 1) = true := by rw [HS.out.1, HE.out.1, HE.out.2.1, HE.out.2.2, decide_eq_true (show (-1 : Int) < s by omega), decide_eq_true (show 1 ≤ z by omega)]; rfl
              have HO := Lib.hid hok2; clear hok2
              go_wp2_with fail
              go_quiet (fail)
              go_wp2_with fail
              exact ⟨⟨0 + 1, d + nq, by go_num, by omega, HO.out, by rw [HS.out.2.2.1, World.drewN_drewN]⟩, by simp [intOf]; omega⟩
        · have ha : aheadC S k = nth S (k - 1) := by unfold aheadC; rw [if_neg (by omega)]
          have hpv := hprev hk0
          generalize ht : nth S (k - 1) = t at g3 hpv ha
          have HE := Lib.hid (And.intro hs (And.intro hz ha)); clear hs hz ha ht hprev
          have q3 : ((k : Nat) : Int) - 1 < n1 := by omega
          have q4 : (0 : Int) ≤ ((k : Nat) : Int) - 1 := by omega
          have q5 : decide ((0 : Int) < (k : Nat)) = true := by simpa using hk0
          have q6 : decide (0 < k) = true := by simpa using hk0
          by_cases hs0 : s < 0
          · have hs0' : decide (s < 0) = true := by simpa using hs0
            have HC := Lib.hid (HS.out.2.1 (by rw [HS.out.1, HE.out.1, HE.out.2.1, HE.out.2.2, decide_eq_false (by omega)]; rfl))
            go_wp2_with fail
            go_quiet (fail)
            go_wp2_with fail
            go_ret
            exact ⟨ret_int HC.out.symm, by first | exact below_drewN HS.out.2.2.2.bel nq | (rw [hp]; exact below_drewN HS.out.2.2.2.bel nq)⟩
          · have hs0' : decide (s < 0) = false := by simpa using hs0
            by_cases hst : s ≤ t
            · have hst' : decide (s ≤ t) = true := by simpa using hst
              have HC := Lib.hid (HS.out.2.1 (by rw [HS.out.1, HE.out.1, HE.out.2.1, HE.out.2.2, decide_eq_false (by omega)]; rfl))
              go_wp2_with fail
              go_quiet (fail)
              go_wp2_with fail
              go_ret
              exact ⟨ret_int HC.out.symm, by first | exact below_drewN HS.out.2.2.2.bel nq | (rw [hp]; exact below_drewN HS.out.2.2.2.bel nq)⟩
            · have hst' : decide (s ≤ t) = false := by simpa using hst
              by_cases hz1 : z < 1
              · have hz1' : decide (z < 1) = true := by simpa using hz1
                have HC := Lib.hid (HS.out.2.1 (by rw [HS.out.1, HE.out.1, HE.out.2.1, HE.out.2.2, decide_eq_false (show ¬ 1 ≤ z by omega), Bool.and_false]))
                go_wp2_with fail
                go_quiet (fail)
                go_wp2_with fail
                go_ret
                exact ⟨ret_int HC.out.symm, by first | exact below_drewN HS.out.2.2.2.bel nq | (rw [hp]; exact below_drewN HS.out.2.2.2.bel nq)⟩
              · have hz1' : decide (z < 1) = false := by simpa using hz1
                have hok2 : okAt S Z (k + 1) = true := by rw [HS.out.1, HE.out.1, HE.out.2.1, HE.out.2.2, decide_eq_true (show t < s by omega), decide_eq_true (show 1 ≤ z by omega)]; rfl
                have HO := Lib.hid hok2; clear hok2
                go_wp2_with fail
                go_quiet (fail)
                go_wp2_with fail
                exact ⟨⟨k + 1, d + nq, by go_num, by omega, HO.out, by rw [HS.out.2.2.1, World.drewN_drewN]⟩, by simp [intOf]; omega⟩
      · obtain rfl : k = n1 := by omega
        have hcc : checkC S Z m = if (cntC Z).2 ≠ 0 then (cntC Z).2 else if (cntC Z).1 ≠ m then 60 else 0 := by
          unfold checkC
          rw [if_neg (by rw [HI.out.1, HI.out.2]; simp), if_neg (by rw [HI.out.1, hok]; simp)]
        have HC := Lib.hid hcc; clear hcc hok hwr H1
        go_wp2_with fail
        refine (rcount_any A2 k c2 Z _ H2.has.2.2.1).mono ?_
        rintro e wx ⟨rfl, rfl⟩
        generalize hq : cntC Z = q
        rw [hq] at HC
        obtain ⟨x1, x2⟩ := q
        simp only at HC ⊢
        have HQ := Lib.hid (And.intro hq H2.bel); clear hq H2
        by_cases h2 : x2 = 0
        · subst h2
          by_cases h3' : x1 = m
          · subst h3'
            go_wp2_with fail
            go_ret
            exact ⟨ret_int (by rw [HC.out]; simp), by first | exact HQ.out.2 | (rw [hp]; exact HQ.out.2)⟩
          · go_wp2_with fail
            go_ret
            exact ⟨ret_int (by rw [HC.out]; simp [h3']), by first | exact HQ.out.2 | (rw [hp]; exact HQ.out.2)⟩
        · go_wp2_with fail
          go_ret
          exact ⟨ret_int (by rw [HC.out]; simp [h2]), by first | exact HQ.out.2 | (rw [hp]; exact HQ.out.2)⟩
  · have hne' : ¬ n2 = n1 := fun h => hne h.symm
    have hcc : checkC S Z m = 60 := by unfold checkC; rw [if_pos (by rw [HI.out.1, HI.out.2]; exact hne)]
    have HC := Lib.hid (And.intro hcc H1.bel); clear hcc H1
    go_wp2_with fail
    go_ret
    exact ⟨ret_int HC.out.1.symm, HC.out.2⟩
end Go.Proofs.Ytgmchedfgdgenaa
