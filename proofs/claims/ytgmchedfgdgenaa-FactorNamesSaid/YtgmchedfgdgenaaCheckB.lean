/- factor.Check of a table of bool, walked. Conditions: the lists read. -/
import Derived.Test.YtgmchedfgdgenaaCheck
namespace Go.Proofs.Ytgmchedfgdgenaa
open Go.RowKit

set_option maxRecDepth 100000 in
set_option maxHeartbeats 1600000 in
theorem check_b (A1 A2 A3 : Option Addr) (n1 c1 n2 c2 n3 c3 : Nat) (S Z : List Int) (w : World) (hS : Sl (Value.int .i64) w A1 n1 S) (hZ : Sl (Value.int .i64) w A2 n2 Z) (_ : n3 ≤ 140737488351232) :
    Calls Try.prog 21 #[.agg #[.slice A1 n1 c1, .slice A2 n2 c2, .slice A3 n3 c3]] w fun e w' => e = .returned (.int .i64 (checkC S Z n3)) ∧ Below w.heap.size w w' := by
  have hb1 := hS.big
  have hb2 := hZ.big
  have HI := Lib.hid (And.intro hS.len hZ.len)
  have H1 := (((Held.init w).sl hZ).sl hS).new 50 [.slice A1 n1 c1, .slice A2 n2 c2, .slice A3 n3 c3]
  have r0 := H1.has.1.cell 0
  have r1 := H1.has.1.cell 1
  have r2 := H1.has.1.cell 2
  have hS1 := H1.has.2.1
  have hZ1 := H1.has.2.2.1
  have HB := Lib.hid H1.bel
  clear H1 hS hZ
  go_enter Try.func21, Try.ntmps21
  by_cases hne : n1 = n2
  · subst hne
    go_upto_region 3 with fail
    generalize hp : w.heap.size = p at *
    generalize w.alloc (.cells #[.slice A1 n1 c1, .slice A2 n1 c2, .slice A3 n3 c3] 50) = wb at *
    go_wp2_with fail
    go_loopw [3, 18] (fun a i wr => ∃ k : Nat, a = .int .i64 (aheadC S k) ∧ i = .int .i64 (k : Nat) ∧ k ≤ n1 ∧ okAt S Z k = true ∧ wr = wb) (fun _ i _ => n1 - (intOf i).toNat)
    case atStart => exact ⟨0, rfl, rfl, Nat.zero_le _, rfl, rfl⟩
    case round =>
      obtain ⟨k, rfl, rfl, hk, hok, hwr⟩ := hrel
      have hwr := hwr.symm
      subst hwr
      by_cases hlt : k < n1
      · obtain ⟨bs, os, rfl, _, hcs⟩ := hS1.at' (by omega)
        obtain ⟨bz, oz, rfl, _, hcz⟩ := hZ1.at' (by omega)
        have g1 := hcs k hlt
        have g2 := hcz k hlt
        have hst := okAt_step hok
        have hah : aheadC S (k + 1) = nth S k := by unfold aheadC; simp
        have hbad : okAt S Z (k + 1) = false → checkC S Z n3 = 60 := fun h => by
          unfold checkC
          rw [if_neg (by rw [HI.out.1, HI.out.2]; simp), if_pos (okAt_down S Z S.length (k + 1) (by rw [HI.out.1]; omega) h)]
        have HS := Lib.hid (And.intro hst (And.intro hah hbad)); clear hst hah hbad hok hcs hcz
        generalize hs : nth S k = s at g1
        generalize hz : nth Z k = z at g2
        generalize ha : aheadC S k = a
        have HE := Lib.hid (And.intro hs (And.intro hz ha)); clear hs hz ha
        by_cases hle : s ≤ a
        · have HC := Lib.hid (HS.out.2.2 (by rw [HS.out.1, HE.out.1, HE.out.2.1, HE.out.2.2, decide_eq_false (by omega)]; rfl))
          go_wp2_with fail
          go_ret
          exact ⟨ret_int HC.out.symm, HB.out⟩
        · have hle' : decide (s ≤ a) = false := by simpa using hle
          by_cases hz1 : z < 1
          · have HC := Lib.hid (HS.out.2.2 (by rw [HS.out.1, HE.out.1, HE.out.2.1, HE.out.2.2, decide_eq_false (show ¬ 1 ≤ z by omega), Bool.and_false]))
            go_wp2_with fail
            go_ret
            exact ⟨ret_int HC.out.symm, HB.out⟩
          · have hok2 : okAt S Z (k + 1) = true := by rw [HS.out.1, HE.out.1, HE.out.2.1, HE.out.2.2, decide_eq_true (show a < s by omega), decide_eq_true (show 1 ≤ z by omega)]; rfl
            have HO := Lib.hid hok2; clear hok2
            go_wp2_with fail
            exact ⟨⟨k + 1, by rw [HS.out.2.1, HE.out.1], by go_num, by omega, HO.out, trivial⟩, by simp [intOf]; omega⟩
      · obtain rfl : k = n1 := by omega
        have hcc : checkC S Z n3 = if (cntC Z).2 ≠ 0 then (cntC Z).2 else if (cntC Z).1 ≠ n3 then 60 else 0 := by
          unfold checkC
          rw [if_neg (by rw [HI.out.1, HI.out.2]; simp), if_neg (by rw [HI.out.1, hok]; simp)]
        have HC := Lib.hid hcc; clear hcc hok
        go_wp2_with fail
        refine (count_any A2 k c2 Z _ hZ1).mono ?_
        rintro e wx ⟨rfl, rfl⟩
        generalize hq : cntC Z = q
        rw [hq] at HC
        obtain ⟨q1, q2⟩ := q
        simp only at HC ⊢
        have HQ := Lib.hid hq; clear hq
        by_cases h2 : q2 = 0
        · subst h2
          by_cases h3' : q1 = n3
          · subst h3'
            go_wp2_with fail
            go_ret
            exact ⟨ret_int (by rw [HC.out]; simp), by first | exact HB.out | (rw [hp]; exact HB.out)⟩
          · go_wp2_with fail
            go_ret
            exact ⟨ret_int (by rw [HC.out]; simp [h3']), by first | exact HB.out | (rw [hp]; exact HB.out)⟩
        · go_wp2_with fail
          go_ret
          exact ⟨ret_int (by rw [HC.out]; simp [h2]), by first | exact HB.out | (rw [hp]; exact HB.out)⟩
  · have hne' : ¬ n2 = n1 := fun h => hne h.symm
    have hcc : checkC S Z n3 = 60 := by unfold checkC; rw [if_pos (by rw [HI.out.1, HI.out.2]; exact hne)]
    have HC := Lib.hid hcc; clear hcc
    go_wp2_with fail
    go_ret
    exact ⟨ret_int HC.out.symm, HB.out⟩
end Go.Proofs.Ytgmchedfgdgenaa
