/- credenceref13.Ints and shape, walked. No condition. -/
import Derived.Test.YtgmchedfgdgenaaDigits
namespace Go.Proofs.Ytgmchedfgdgenaa
open Go.RowKit

set_option maxRecDepth 100000 in
theorem rints_any (A A' : Option Addr) (n c n' c' : Nat) (xs ys : List Int) (w : World) (hx : Sl (Value.int .i64) w A n xs) (hy : Sl (Value.int .i64) w A' n' ys) :
    Calls Try.prog 16 #[.slice A n c, .slice A' n' c'] w fun e w' => e = .returned (.bool (decide (xs = ys))) ∧ ∃ k, w' = w.drewN k := by
  obtain ⟨lx, bx, ax⟩ := hx
  obtain ⟨ly, bY, ay⟩ := hy
  by_cases hnn : n = n'
  · subst hnn
    have HL := Lib.hid (And.intro lx ly); clear lx ly
    go_enter Try.func16, Try.ntmps16
    go_wp2
    go_loopw [5] (fun i wr => ∃ k m : Nat, k ≤ n ∧ i = .int .i64 k ∧ wr = w.drewN m ∧ ∀ j, j < k → nth xs j = nth ys j) (fun i _ => n - (intOf i).toNat)
    case atStart => exact ⟨0, 0, Nat.zero_le _, rfl, rfl, by intro j hj; omega⟩
    case round =>
      obtain ⟨k, m, hk, rfl, rfl, heq⟩ := hrel
      have HQ := Lib.hid heq; clear heq
      by_cases hlt : k < n
      · obtain ⟨b, off, rfl, hb, hc⟩ := ax (by omega)
        obtain ⟨b', off', rfl, hb', hc'⟩ := ay (by omega)
        have g1 := hc k hlt
        have g2 := hc' k hlt
        clear hc hc' ax ay
        go_wp2
        go_quiet (fail)
        go_wp2
        · go_ret
          refine ⟨ret_bool ?_, ⟨_, World.drewN_drewN _ _ _⟩⟩
          have hne : nth xs k ≠ nth ys k := by
            have h : (nth xs k != nth ys k) = true := by assumption
            simpa using h
          have : xs ≠ ys := by rintro rfl; exact hne rfl
          simp [this]
        · have he : nth xs k = nth ys k := by
            have h : (nth xs k != nth ys k) = false := by assumption
            simpa using h
          go_roundw
          case rel => exact ⟨k + 1, m + nq, by omega, by go_num, rfl, fun j hj => by
            by_cases h : j < k
            · exact HQ.out j h
            · obtain rfl : j = k := by omega
              exact he⟩
          case measure => simp [intOf]; omega
      · clear ax ay
        go_wp2
        go_ret
        refine ⟨ret_bool ?_, ⟨_, rfl⟩⟩
        have : xs = ys := nth_ext (by rw [HL.out.1, HL.out.2]) (fun j hj => HQ.out j (by have := HL.out.1; omega))
        simp [this]
  · have hne : ((n : Int) != (n' : Int)) = true := by rw [bne_iff_ne]; omega
    go_enter Try.func16, Try.ntmps16
    go_wp2
    go_ret
    refine ⟨ret_bool ?_, 0, rfl⟩
    have : xs ≠ ys := by intro h; rw [h] at lx; omega
    simp [this]


set_option maxRecDepth 100000 in
set_option maxHeartbeats 400000 in
theorem shape_any (A1 A2 A3 : Option Addr) (n1 c1 n2 c2 n3 c3 : Nat) (w : World) :
    Calls Try.prog 9 #[.agg #[.slice A1 n1 c1, .slice A2 n2 c2, .slice A3 n3 c3]] w fun e w' => e = .returned (.agg #[.slice A1 n1 c1, .slice A2 n2 c2, .int .i64 (n3 : Int)]) ∧ Below w.heap.size w w' := by
  have H1 := (Held.init w).new 24 [.slice A1 n1 c1, .slice A2 n2 c2, .slice A3 n3 c3]
  have H := H1.new 29 [.slice A1 n1 c1, .slice A2 n2 c2, .int .i64 (n3 : Int)]
  rw [show (w.alloc (.cells [.slice A1 n1 c1, .slice A2 n2 c2, .slice A3 n3 c3].toArray 24)).heap.size = w.heap.size + 1 from by simp] at H
  clear H1
  have r0 := H.has.1.cell 0
  have r1 := H.has.1.cell 1
  have r2 := H.has.1.cell 2
  have HB := Lib.hid H.bel
  clear H
  go_enter Try.func9, Try.ntmps9
  go_wp2_with fail
  exact bodyPost_ret (v := .agg #[.slice A1 n1 c1, .slice A2 n2 c2, .int .i64 (n3 : Int)]) (by simp [results, Try.results9, go_sem, r0, r1, r2]) rfl ⟨rfl, HB.out⟩
end Go.Proofs.Ytgmchedfgdgenaa
