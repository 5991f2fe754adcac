/- Words.Same; cellsAre[string], walked. No condition. -/
import Derived.Test.YtgmchedfgdgenaaCells
import Derived.Deep.RegionHeld3
namespace Go.Proofs.Ytgmchedfgdgenaa
open Go.RowKit

theorem text_ext {a b : ByteArray} (h : a.toList = b.toList) : a = b := by
  rw [ByteArray.toList_eq, ByteArray.toList_eq] at h
  exact ByteArray.ext (Array.ext' h)
theorem Sl.cellS {w : World} {b off n j : Nat} {xs : List ByteArray} (h : Sl (Value.string) w (some ⟨b, off, none⟩) n xs) (hj : j < n) : w.cell? ⟨b, off + j, none⟩ = some (.string (nth xs j)) := by
  obtain ⟨b', off', e, _, hc⟩ := h.at' (by omega)
  injection e with e
  injection e with e1 e2
  subst e1 e2
  exact hc j hj
theorem ahead_s (w : World) : (nilAhead 280 45 (.agg #[]) "Same").run Try.prog w = .ok (some false) w := by kernel_rfl
theorem method_s (w : World) : (method 280 45 (.agg #[]) "Same").run Try.prog w = .ok (124, .agg #[]) w := by kernel_rfl
set_option maxHeartbeats 400000 in
theorem same_s (r : Value) (a b : ByteArray) (w : World) (hr : r = .agg #[]) : Calls Try.prog 124 #[r, .string a, .string b] w fun e w' => e = .returned (.bool (a.toList == b.toList)) ∧ Below w.heap.size w w' := by
  subst hr
  have H := (Held.init w).new 45 []
  have HB := Lib.hid H.bel
  clear H
  go_enter Try.func124, Try.ntmps124
  go_wp2_with fail
  go_ret
  exact ⟨rfl, HB.out⟩
set_option maxRecDepth 100000 in
set_option maxHeartbeats 400000 in
theorem cells_s (A B : Option Addr) (n c m d : Nat) (xs ys : List ByteArray) (w : World) (hx : Sl (Value.string) w A n xs) (hy : Sl (Value.string) w B m ys) :
    Calls Try.prog 34 #[.iface 45 (.agg #[]), .slice A n c, .slice B m d] w fun e w' => e = .returned (.bool (decide (xs = ys))) ∧ Below w.heap.size w w' := by
  by_cases hnn : n = m
  · subst hnn
    have HL := Lib.hid (And.intro hx.len hy.len)
    have hbig := hx.big
    have H0 := ((Held.init w).sl hx).sl hy
    clear hx hy
    go_enter Try.func34, Try.ntmps34
    go_wp2_with fail
    go_loopw [7] (fun i wr => ∃ k : Nat, k ≤ n ∧ i = .int .i64 k ∧ Held w (fun w' => Sl (Value.string) w' B n ys ∧ Sl (Value.string) w' A n xs ∧ True) wr ∧ ∀ j, j < k → nth xs j = nth ys j) (fun i _ => n - (intOf i).toNat)
    case atStart => exact ⟨0, Nat.zero_le _, rfl, H0, by intro j hj; omega⟩
    case round =>
      obtain ⟨k, hk, rfl, H, heq⟩ := hrel
      have HQ := Lib.hid heq; clear heq H0
      by_cases hlt : k < n
      · obtain ⟨b, off, rfl, hb, hc⟩ := H.has.2.1.at' (by omega)
        obtain ⟨b', off', rfl, hb', hc'⟩ := H.has.1.at' (by omega)
        have g1 := hc k hlt
        have g2 := hc' k hlt
        clear hc hc'
        go_wp2_with fail
        have HD := Lib.hid H.drew
        have hna := ahead_s
        have hme := method_s
        go_region_held3 (fun w' => w'.cell? ⟨b, off + k, none⟩ = some (.string (nth xs k)) ∧ w'.cell? ⟨b', off' + k, none⟩ = some (.string (nth ys k)))
          (first | exact ⟨g1, g2⟩ | assumption | go_keep)
          (first
            | ((go_at_call 124); (with_reducible refine (same_s _ _ _ _ rfl).mono ?_); (rintro e w1 ⟨rfl, hb1⟩); (have H1 := HD.out.step hb1); (have g1 := H1.has.2.1.cellS hlt); (have g2 := H1.has.1.cellS hlt)))
        rcases hbe : ((nth xs k).toList == (nth ys k).toList) with _ | _
        · clear g1 g2
          go_wp2_with fail
          go_ret
          have hne : xs ≠ ys := by rintro rfl; simp at hbe
          exact ⟨ret_bool (by simp [hne]), H1.bel⟩
        · have he : nth xs k = nth ys k := text_ext (by simpa using hbe)
          clear g1 g2
          go_wp2_with fail
          go_roundw
          case rel => exact ⟨k + 1, by omega, by go_num, H1, fun j hj => by
            by_cases h : j < k
            · exact HQ.out j h
            · obtain rfl : j = k := by omega
              exact he⟩
          case measure => simp [intOf]; omega
      · go_wp2_with fail
        go_ret
        have : xs = ys := nth_ext (by rw [HL.out.1, HL.out.2]) (fun j hj => HQ.out j (by have := HL.out.1; omega))
        exact ⟨ret_bool (by simp [this]), H.bel⟩
  · have hne : ((n : Int) != (m : Int)) = true := by rw [bne_iff_ne]; omega
    have lx := hx.len
    have ly := hy.len
    clear hx hy
    go_enter Try.func34, Try.ntmps34
    go_wp2_with fail
    go_ret
    have : xs ≠ ys := by intro h; rw [h] at lx; omega
    exact ⟨ret_bool (by simp [this]), Below.refl _ _⟩
end Go.Proofs.Ytgmchedfgdgenaa
