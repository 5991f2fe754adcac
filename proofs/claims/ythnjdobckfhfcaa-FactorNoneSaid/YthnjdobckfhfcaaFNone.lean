/- FactorNone: without a ring Times, Out and Same say so at once, whatever tables come in. No condition. -/
import Derived.Test.YthnjdobckfhfcaaHeld
import Derived.Outline
namespace Go.Proofs.Ythnjdobckfhfcaa.FNone
open Go.RowKit

theorem times_nil (v1 v2 v3 u1 u2 u3 : Value) (w : World) :
    Calls Try.prog 45 #[.nilIface, .agg #[v1, v2, v3], .agg #[u1, u2, u3]] w fun e w' => e = .returned (.tuple #[.agg #[.slice none 0 0, .slice none 0 0, .slice none 0 0], .int .i64 2]) ∧ Below w.heap.size w w' := by
  go_enter Try.func45, Try.ntmps45
  go_wp2_with fail
  exact bodyPost_ret (v := .tuple #[.agg #[.slice none 0 0, .slice none 0 0, .slice none 0 0], .int .i64 2]) (by simp [results, Try.results45, go_sem]) rfl
    ⟨rfl, by repeat' (first | exact Below.refl _ _ | refine Below.alloc ?_ (by first | exact Nat.le_refl _ | (simp; done) | (simp; omega)) _)⟩
theorem out_nil (v1 v2 v3 : Value) (v : Int) (w : World) :
    Calls Try.prog 46 #[.nilIface, .agg #[v1, v2, v3], .int .i64 v] w fun e w' => e = .returned (.tuple #[.agg #[.slice none 0 0, .slice none 0 0, .slice none 0 0], .int .i64 2]) ∧ Below w.heap.size w w' := by
  go_enter Try.func46, Try.ntmps46
  go_wp2_with fail
  exact bodyPost_ret (v := .tuple #[.agg #[.slice none 0 0, .slice none 0 0, .slice none 0 0], .int .i64 2]) (by simp [results, Try.results46, go_sem]) rfl
    ⟨rfl, by repeat' (first | exact Below.refl _ _ | refine Below.alloc ?_ (by first | exact Nat.le_refl _ | (simp; done) | (simp; omega)) _)⟩
theorem same_nil (v1 v2 v3 u1 u2 u3 : Value) (w : World) :
    Calls Try.prog 47 #[.nilIface, .agg #[v1, v2, v3], .agg #[u1, u2, u3]] w fun e w' => e = .returned (.bool false) ∧ Below w.heap.size w w' := by
  go_enter Try.func47, Try.ntmps47
  go_wp2_with fail
  go_ret
  exact ⟨rfl, by repeat' (first | exact Below.refl _ _ | refine Below.alloc ?_ (by first | exact Nat.le_refl _ | (simp; done) | (simp; omega)) _)⟩
set_option maxHeartbeats 1000000 in
theorem law (v1 v2 v3 u1 u2 u3 : Value) (v : Int) (w : World) (h1 : ∀ x ∈ [v1, v2, v3, u1, u2, u3], ∃ A n c, x = .slice A n c) :
    Calls Try.prog 7 #[.agg #[v1, v2, v3], .agg #[u1, u2, u3], .int .i64 v] w fun e w' => e = .returned (.bool true) ∧ Below w.heap.size w w' := by
  obtain ⟨A1, n1, c1, rfl⟩ := h1 v1 (by simp)
  obtain ⟨A2, n2, c2, rfl⟩ := h1 v2 (by simp)
  obtain ⟨A3, n3, c3, rfl⟩ := h1 v3 (by simp)
  obtain ⟨A4, n4, c4, rfl⟩ := h1 u1 (by simp)
  obtain ⟨A5, n5, c5, rfl⟩ := h1 u2 (by simp)
  obtain ⟨A6, n6, c6, rfl⟩ := h1 u3 (by simp)
  clear h1
  have H1 := (Held.init w).new 24 [.slice A1 n1 c1, .slice A2 n2 c2, .slice A3 n3 c3]
  have H2 := H1.new 24 [.slice A4 n4 c4, .slice A5 n5 c5, .slice A6 n6 c6]
  rw [show (w.alloc (.cells [.slice A1 n1 c1, .slice A2 n2 c2, .slice A3 n3 c3].toArray 24)).heap.size = w.heap.size + 1 from by simp] at H2
  clear H1
  go_enter Try.func7, Try.ntmps7
  go_wp2_with fail
  refine (times_nil _ _ _ _ _ _ _).mono ?_
  rintro e w1 ⟨rfl, hb⟩
  have H3 := H2.step hb
  clear H2 hb
  have H4 := H3.new 24 [.slice none 0 0, .slice none 0 0, .slice none 0 0]
  have a0 := H4.has.2.2.1.cell 0
  have a1 := H4.has.2.2.1.cell 1
  have a2 := H4.has.2.2.1.cell 2
  clear H3
  go_wp2_with fail
  refine (out_nil _ _ _ _ _).mono ?_
  rintro e w2 ⟨rfl, hb⟩
  have H5 := H4.step hb
  clear H4 hb a0 a1 a2
  have H6 := H5.new 24 [.slice none 0 0, .slice none 0 0, .slice none 0 0]
  have a0 := H6.has.2.2.2.1.cell 0
  have a1 := H6.has.2.2.2.1.cell 1
  have a2 := H6.has.2.2.2.1.cell 2
  have b0 := H6.has.2.2.1.cell 0
  have b1 := H6.has.2.2.1.cell 1
  have b2 := H6.has.2.2.1.cell 2
  have c2' := H6.has.2.1.cell 2
  clear H5
  go_wp2_with fail
  refine (same_nil _ _ _ _ _ _ _).mono ?_
  rintro e w3 ⟨rfl, hb⟩
  have H7 := H6.step hb
  clear H6 hb a0 a1 a2 b0 b1 b2 c2'
  have b0 := H7.has.2.2.1.cell 0
  have b1 := H7.has.2.2.1.cell 1
  have b2 := H7.has.2.2.1.cell 2
  have a0 := H7.has.2.2.2.1.cell 0
  have a1 := H7.has.2.2.2.1.cell 1
  have a2 := H7.has.2.2.2.1.cell 2
  go_wp2_with fail
  refine (same_nil _ _ _ _ _ _ _).mono ?_
  rintro e w4 ⟨rfl, hb⟩
  have H8 := H7.step hb
  clear H7 hb a0 a1 a2 b0 b1 b2
  go_wp2_with fail
  go_ret
  exact ⟨rfl, H8.bel⟩
theorem lawB (A1 : Option Addr) (n1 c1 : Nat) (xs1 : List Int) (A2 : Option Addr) (n2 c2 : Nat) (xs2 : List Int) (A3 : Option Addr) (n3 c3 : Nat) (xs3 : List Int) (A4 : Option Addr) (n4 c4 : Nat) (xs4 : List Int) (A5 : Option Addr) (n5 c5 : Nat) (xs5 : List Int) (A6 : Option Addr) (n6 c6 : Nat) (xs6 : List Int) (v : Int) (w : World)
    (_ : Sl (Value.int .i64) w A1 n1 xs1) (_ : Sl (Value.int .i64) w A2 n2 xs2) (_ : Sl (Value.int .i64) w A3 n3 xs3) (_ : ∀ x, x ∈ xs1 ∨ x ∈ xs2 ∨ x ∈ xs3 → (Lit.int .i64 x).wf = true)
    (_ : Sl (Value.int .i64) w A4 n4 xs4) (_ : Sl (Value.int .i64) w A5 n5 xs5) (_ : Sl (Value.int .i64) w A6 n6 xs6) (_ : ∀ x, x ∈ xs4 ∨ x ∈ xs5 ∨ x ∈ xs6 → (Lit.int .i64 x).wf = true) (_ : (Lit.int .i64 v).wf = true) :
    Calls Try.prog 7 #[.agg #[.slice A1 n1 c1, .slice A2 n2 c2, .slice A3 n3 c3], .agg #[.slice A4 n4 c4, .slice A5 n5 c5, .slice A6 n6 c6], .int .i64 v] w fun e w' => e = .returned (.bool true) ∧ Below w.heap.size w w' :=
  law _ _ _ _ _ _ v w (by simp)
end Go.Proofs.Ythnjdobckfhfcaa.FNone
