/- ring.Ints.Same; cellsAre[int], walked. No condition. -/
import Derived.Test.YtgmchedfgdgenaaIntsEq
import Derived.Deep.RegionHeld3
namespace Go.Proofs.Ytgmchedfgdgenaa
open Go.RowKit

theorem Sl.cellI {w : World} {b off n j : Nat} {xs : List Int} (h : Sl (Value.int .i64) w (some ⟨b, off, none⟩) n xs) (hj : j < n) : w.cell? ⟨b, off + j, none⟩ = some (.int .i64 (nth xs j)) := by
  obtain ⟨b', off', e, _, hc⟩ := h.at' (by omega)
  injection e with e
  injection e with e1 e2
  subst e1 e2
  exact hc j hj
theorem ahead_i (w : World) : (nilAhead 280 41 (.agg #[]) "Same").run Try.prog w = .ok (some false) w := by kernel_rfl
theorem method_i (w : World) : (method 280 41 (.agg #[]) "Same").run Try.prog w = .ok (119, .agg #[]) w := by kernel_rfl
set_option maxHeartbeats 400000 in
theorem same_i (r : Value) (a b : Int) (w : World) (hr : r = .agg #[]) : Calls Try.prog 119 #[r, .int .i64 a, .int .i64 b] w fun e w' => e = .returned (.bool (a == b)) ∧ Below w.heap.size w w' := by
  subst hr
  have H := (Held.init w).new 41 []
  have HB := Lib.hid H.bel
  clear H
  go_enter Try.func119, Try.ntmps119
  go_wp2_with fail
  go_ret
  exact ⟨rfl, HB.out⟩
set_option maxRecDepth 100000 in
set_option maxHeartbeats 400000 in
theorem cells_i (A B : Option Addr) (n c m d : Nat) (xs ys : List Int) (w : World) (hx : Sl (Value.int .i64) w A n xs) (hy : Sl (Value.int .i64) w B m ys) :
    Calls Try.prog 33 #[.iface 41 (.agg #[]), .slice A n c, .slice B m d] w fun e w' => e = .returned (.bool (decide (xs = ys))) ∧ Below w.heap.size w w' := by
  by_cases hnn : n = m
  · subst hnn
    have HL := Lib.hid (And.intro hx.len hy.len)
    have hbig := hx.big
    have H0 := ((Held.init w).sl hx).sl hy
    clear hx hy
    go_enter Try.func33, Try.ntmps33
    go_wp2_with fail
    go_loopw [7] (fun i wr => ∃ k : Nat, k ≤ n ∧ i = .int .i64 k ∧ Held w (fun w' => Sl (Value.int .i64) w' B n ys ∧ Sl (Value.int .i64) w' A n xs ∧ True) wr ∧ ∀ j, j < k → nth xs j = nth ys j) (fun i _ => n - (intOf i).toNat)
    case atStart => exact ⟨0, Nat.zero_le _, rfl, H0, by intro j hj; omega⟩
    case round =>
      obtain ⟨k, hk, rfl, H, heq⟩ := hrel
      have HQ := Lib.hid heq; clear heq H0
      by_cases hlt : k < n
      · obtain ⟨b, off, rfl, hb, hc⟩ := H.has.2.1.at' (by omega)
        obtain ⟨b', off', rfl, hb', hc'⟩ := H.has.1.at' (by omega)
        have g1 := hc k hlt
        have g2 := hc' k hlt
        clear hc hc'
        go_wp2_with fail
        have HD := Lib.hid H.drew
        have hna := ahead_i
        have hme := method_i
        go_region_held3 (fun w' => w'.cell? ⟨b, off + k, none⟩ = some (.int .i64 (nth xs k)) ∧ w'.cell? ⟨b', off' + k, none⟩ = some (.int .i64 (nth ys k)))
          (first | exact ⟨g1, g2⟩ | assumption | go_keep)
          (first
            | ((go_at_call 119); (with_reducible refine (same_i _ _ _ _ rfl).mono ?_); (rintro e w1 ⟨rfl, hb1⟩); (have H1 := HD.out.step hb1); (have g1 := H1.has.2.1.cellI hlt); (have g2 := H1.has.1.cellI hlt)))
        rcases hbe : (nth xs k == nth ys k) with _ | _
        · clear g1 g2
          go_wp2_with fail
          go_ret
          have hne : xs ≠ ys := by rintro rfl; simp at hbe
          exact ⟨ret_bool (by simp [hne]), H1.bel⟩
        · have he : nth xs k = nth ys k := by simpa using hbe
          clear g1 g2
          go_wp2_with fail
          go_roundw
          case rel => exact ⟨k + 1, by omega, by go_num, H1, fun j hj => by
            by_cases h : j < k
            · exact HQ.out j h
            · obtain rfl : j = k := by omega
              exact he⟩
          case measure => simp [intOf]; omega
      · go_wp2_with fail
        go_ret
        have : xs = ys := nth_ext (by rw [HL.out.1, HL.out.2]) (fun j hj => HQ.out j (by have := HL.out.1; omega))
        exact ⟨ret_bool (by simp [this]), H.bel⟩
  · have hne : ((n : Int) != (m : Int)) = true := by rw [bne_iff_ne]; omega
    have lx := hx.len
    have ly := hy.len
    clear hx hy
    go_enter Try.func33, Try.ntmps33
    go_wp2_with fail
    go_ret
    have : xs ≠ ys := by intro h; rw [h] at lx; omega
    exact ⟨ret_bool (by simp [this]), Below.refl _ _⟩
/-- whether two things are the same, as the ring has it -/
def sameF_i (a b : Int) : Bool := (a == b)
theorem sameC_i (a b : Int) (w : World) : Calls Try.prog 119 #[.agg #[], .int .i64 a, .int .i64 b] w fun e w' => e = .returned (.bool (sameF_i a b)) ∧ Below w.heap.size w w' := same_i _ a b w rfl
end Go.Proofs.Ytgmchedfgdgenaa
