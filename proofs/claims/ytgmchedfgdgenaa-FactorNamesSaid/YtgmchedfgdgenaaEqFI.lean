/- slices.EqualFunc with a ring's Same at int, walked. No condition. -/
import Derived.Test.YtgmchedfgdgenaaEq
import Derived.Test.YtgmchedfgdgenaaCells
import Derived.Deep.RegionHeld3
namespace Go.Proofs.Ytgmchedfgdgenaa
open Go.RowKit
attribute [local go_sem] Oper.semAt_some

theorem aheadSame_i (w : World) : (nilAhead 280 41 (.agg #[]) "Same").run Try.prog w = .ok (some false) w := by kernel_rfl
theorem methodSame_i (w : World) : (method 280 41 (.agg #[]) "Same").run Try.prog w = .ok (119, .agg #[]) w := by kernel_rfl
/-- whether two lists are the same, thing by thing -/
def eqB_i (xs ys : List Int) : Bool := (xs.length == ys.length) && (List.range xs.length).all fun j => sameF_i (nth xs j) (nth ys j)
theorem eqB_true_i {xs ys : List Int} (h : xs.length = ys.length) (h2 : ∀ j, j < xs.length → sameF_i (nth xs j) (nth ys j) = true) : eqB_i xs ys = true := by
  unfold eqB_i
  rw [h, beq_self_eq_true, Bool.true_and, List.all_eq_true]
  intro j hj
  exact h2 j (by rw [h]; exact List.mem_range.1 hj)
theorem eqB_false_i {xs ys : List Int} {j : Nat} (hj : j < xs.length) (h : sameF_i (nth xs j) (nth ys j) = false) : eqB_i xs ys = false := by
  unfold eqB_i
  rw [Bool.and_eq_false_iff]
  refine .inr ?_
  rw [List.all_eq_false]
  exact ⟨j, List.mem_range.2 hj, by rw [h]; simp⟩
theorem eqB_len_i {xs ys : List Int} (h : xs.length ≠ ys.length) : eqB_i xs ys = false := by
  unfold eqB_i
  rw [beq_eq_false_iff_ne.2 h, Bool.false_and]
set_option maxRecDepth 100000 in
set_option maxHeartbeats 400000 in
theorem eqf_i (A B : Option Addr) (n c m d : Nat) (xs ys : List Int) (w : World) (hx : Sl (Value.int .i64) w A n xs) (hy : Sl (Value.int .i64) w B m ys) :
    Calls Try.prog 74 #[.slice A n c, .slice B m d, .func (.method "Same") #[.iface 41 (.agg #[])] #[]] w fun e w' => e = .returned (.bool (eqB_i xs ys)) ∧ Below w.heap.size w w' := by
  by_cases hnn : n = m
  · subst hnn
    have HL := Lib.hid (And.intro hx.len hy.len)
    have hbig := hx.big
    have H0 := ((Held.init w).sl hx).sl hy
    clear hx hy
    go_enter Try.func74, Try.ntmps74
    go_wp2_with fail
    go_loopw [17] (fun i wr => ∃ k : Nat, k ≤ n ∧ i = .int .i64 k ∧ Held w (fun w' => Sl (Value.int .i64) w' B n ys ∧ Sl (Value.int .i64) w' A n xs ∧ True) wr ∧ ∀ j, j < k → sameF_i (nth xs j) (nth ys j) = true) (fun i _ => n - (intOf i).toNat)
    case atStart => exact ⟨0, Nat.zero_le _, rfl, H0, by intro j hj; omega⟩
    case round =>
      obtain ⟨k, hk, rfl, H, heq⟩ := hrel
      have HQ := Lib.hid heq; clear heq H0
      by_cases hlt : k < n
      · obtain ⟨b, off, rfl, hb, hc⟩ := H.has.2.1.at' (by omega)
        obtain ⟨b', off', rfl, hb', hc'⟩ := H.has.1.at' (by omega)
        have g1 := hc k hlt
        have g2 := hc' k hlt
        clear hc hc'
        have hna := aheadSame_i
        have hme := methodSame_i
        go_wp2_with fail
        refine (sameC_i _ _ _).mono ?_
        rintro e w1 ⟨rfl, hb1⟩
        have H1 := H.step hb1
        have HB := Lib.hid H1
        clear H H1 hb1 g1 g2 hna hme
        rcases hbe : sameF_i (nth xs k) (nth ys k) with _ | _
        · have HE := Lib.hid (eqB_false_i (by rw [HL.out.1]; exact hlt) hbe)
          clear hbe
          go_wp2_with fail
          go_ret
          exact ⟨ret_bool HE.out.symm, HB.out.bel⟩
        · have HE := Lib.hid hbe
          clear hbe
          go_wp2_with fail
          exact ⟨⟨k + 1, by omega, by go_num, HB.out, fun j hj => by
            by_cases h : j < k
            · exact HQ.out j h
            · obtain rfl : j = k := by omega
              exact HE.out⟩, by simp [intOf]; omega⟩
      · have HB := Lib.hid H
        clear H
        go_wp2_with fail
        go_ret
        exact ⟨ret_bool (eqB_true_i (by rw [HL.out.1, HL.out.2]) (fun j hj => HQ.out j (by have := HL.out.1; omega))).symm, HB.out.bel⟩
  · have hne : ((n : Int) != (m : Int)) = true := by rw [bne_iff_ne]; omega
    have HE := Lib.hid (eqB_len_i (xs := xs) (ys := ys) (by rw [hx.len, hy.len]; exact hnn))
    clear hx hy
    go_enter Try.func74, Try.ntmps74
    go_wp2_with fail
    go_ret
    exact ⟨ret_bool HE.out.symm, Below.refl _ _⟩
end Go.Proofs.Ytgmchedfgdgenaa
