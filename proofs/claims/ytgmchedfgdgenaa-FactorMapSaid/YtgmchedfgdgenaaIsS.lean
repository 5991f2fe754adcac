/- credencelaw13.is[string], walked. No condition. -/
import Derived.Test.YtgmchedfgdgenaaOne
namespace Go.Proofs.Ytgmchedfgdgenaa
open Go.RowKit

set_option maxRecDepth 100000 in
set_option maxHeartbeats 400000 in
theorem is_s (A1 A2 A3 B1 B2 C : Option Addr) (n1 c1 n2 c2 n3 c3 m1 d1 m2 d2 m3 d3 : Nat) (k : Int) (S Z S' Z' : List Int) (xs ys : List ByteArray) (w : World)
    (h1 : Sl (Value.int .i64) w A1 n1 S) (h2 : Sl (Value.int .i64) w A2 n2 Z) (h3 : Sl Value.string w A3 n3 xs) (k1 : Sl (Value.int .i64) w B1 m1 S') (k2 : Sl (Value.int .i64) w B2 m2 Z') (k3 : Sl Value.string w C m3 ys) :
    Calls Try.prog 17 #[.iface 45 (.agg #[]), .agg #[.slice A1 n1 c1, .slice A2 n2 c2, .slice A3 n3 c3], .agg #[.slice B1 m1 d1, .slice B2 m2 d2, .int .i64 k], .slice C m3 d3] w
      fun e w' => e = .returned (.bool (decide (S = S') && decide (Z = Z') && decide (xs = ys))) ∧ Below w.heap.size w w' := by
  have H1 := (((((((Held.init w).sl h1).sl h2).sl h3).sl k1).sl k2).sl k3).new 33 [.slice A1 n1 c1, .slice A2 n2 c2, .slice A3 n3 c3]
  have H := H1.new 29 [.slice B1 m1 d1, .slice B2 m2 d2, .int .i64 k]
  rw [show (w.alloc (.cells [.slice A1 n1 c1, .slice A2 n2 c2, .slice A3 n3 c3].toArray 33)).heap.size = w.heap.size + 1 from by simp] at H
  clear H1 h1 h2 h3 k1 k2 k3
  have r0 := H.has.2.1.cell 0
  have r1 := H.has.2.1.cell 1
  have r2 := H.has.2.1.cell 2
  have t0 := H.has.1.cell 0
  have t1 := H.has.1.cell 1
  go_enter Try.func17, Try.ntmps17
  go_wp2_with fail
  refine (rints_any A1 B1 n1 c1 m1 d1 S S' _ H.has.2.2.2.2.2.2.2.1 H.has.2.2.2.2.1).mono ?_
  rintro e w1 ⟨rfl, j, hw⟩
  have HA := H.drewN j
  rw [← hw] at HA
  clear hw
  generalize hS : decide (S = S') = b1
  cases b1
  · have HF := Lib.hid HA
    clear HA H
    go_wp2_with fail
    go_ret
    exact ⟨by rw [hS]; rfl, HF.out.bel⟩
  · have r0 := HA.has.2.1.cell 0
    have r1 := HA.has.2.1.cell 1
    have r2 := HA.has.2.1.cell 2
    have t0 := HA.has.1.cell 0
    have t1 := HA.has.1.cell 1
    clear H
    go_wp2_with fail
    refine (rints_any A2 B2 n2 c2 m2 d2 Z Z' _ HA.has.2.2.2.2.2.2.1 HA.has.2.2.2.1).mono ?_
    rintro e w2 ⟨rfl, j', hw⟩
    have HB := HA.drewN j'
    rw [← hw] at HB
    clear hw
    generalize hZ : decide (Z = Z') = b2
    cases b2
    · have HF := Lib.hid HB
      clear HA HB
      go_wp2_with fail
      go_ret
      exact ⟨by rw [hS, hZ]; rfl, HF.out.bel⟩
    · have r2 := HB.has.2.1.cell 2
      clear HA
      go_wp2_with fail
      refine (cells_s A3 C n3 c3 m3 d3 xs ys _ HB.has.2.2.2.2.2.1 HB.has.2.2.1).mono ?_
      rintro e w1 ⟨rfl, hb⟩
      have HF := Lib.hid (HB.step hb)
      clear HB hb
      go_wp2_with fail
      go_ret
      exact ⟨by rw [hS, hZ]; rfl, HF.out.bel⟩
end Go.Proofs.Ytgmchedfgdgenaa
