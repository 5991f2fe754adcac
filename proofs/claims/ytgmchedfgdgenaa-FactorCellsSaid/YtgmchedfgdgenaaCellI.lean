/- factor.Cell at int, walked. Conditions: the lists read, within Go's bound. -/
import Derived.Test.YtgmchedfgdgenaaAt
import Derived.Test.YtgmchedfgdgenaaCheck
import Derived.Test.YtgmchedfgdgenaaTimesMath
namespace Go.Proofs.Ytgmchedfgdgenaa
open Go.RowKit
attribute [local go_sem] Oper.semAt_some

/-- what is wrong with asking a cell, or 0 -/
def cellErr_i (S Z : List Int) (m : Nat) (d : List Int) : Int := if checkC S Z m ≠ 0 then checkC S Z m else (atC Z d).2
def CellPost_i (S Z : List Int) (L : List Int) (d : List Int) (w : World) (e : Ending) (w' : World) : Prop :=
  ((cellErr_i S Z L.length d ≠ 0 ∧ e = .returned (.tuple #[(.int .i64 0), .int .i64 (cellErr_i S Z L.length d)])) ∨
    (cellErr_i S Z L.length d = 0 ∧ e = .returned (.tuple #[Value.int .i64 (nth L (atS Z d).toNat), .int .i64 0]))) ∧ Below w.heap.size w w'
theorem atC_zero {Z d : List Int} (h : (atC Z d).2 = 0) (hz : ∀ z, z ∈ Z → 1 ≤ z) : (atC Z d).1 = atS Z d ∧ 0 ≤ atS Z d ∧ atS Z d < sufP Z 0 := by
  by_cases hl : d.length = Z.length
  · by_cases ha : ∀ i, i < Z.length → 0 ≤ nth d i ∧ nth d i < nth Z i
    · rw [atC_ok hl ha]
      have := atS_range (Z := Z) (d := d) hl.symm hz ha
      exact ⟨rfl, this⟩
    · obtain ⟨i, hi⟩ := Classical.not_forall.1 ha
      obtain ⟨hi, hb⟩ := Classical.not_imp.1 hi
      rw [atC_bad hl hi hb] at h
      cases h
  · rw [atC_len hl] at h
    cases h
set_option maxRecDepth 100000 in
set_option maxHeartbeats 800000 in
theorem cell_i (A1 A2 A3 A : Option Addr) (n1 c1 n2 c2 n3 c3 n c : Nat) (S Z : List Int) (L : List Int) (d : List Int) (w : World)
    (h1 : Sl (Value.int .i64) w A1 n1 S) (h2 : Sl (Value.int .i64) w A2 n2 Z) (h3 : Sl (Value.int .i64) w A3 n3 L) (hd : Sl (Value.int .i64) w A n d) :
    Calls Try.prog 25 #[.agg #[.slice A1 n1 c1, .slice A2 n2 c2, .slice A3 n3 c3], .slice A n c] w (CellPost_i S Z L d w) := by
  have HL := Lib.hid (And.intro h1.len (And.intro h2.len (And.intro h3.len hd.len)))
  have big1 := h3.big
  have H0 := ((((Held.init w).sl h1).sl h2).sl h3).sl hd |>.new 24 [.slice A1 n1 c1, .slice A2 n2 c2, .slice A3 n3 c3]
  clear h1 h2 h3 hd
  have a0 := H0.has.1.cell 0
  have a1 := H0.has.1.cell 1
  have a2 := H0.has.1.cell 2
  go_enter Try.func25, Try.ntmps25
  go_wp2_with fail
  refine (check_any A1 A2 A3 n1 c1 n2 c2 n3 c3 S Z _ H0.has.2.2.2.2.1 H0.has.2.2.2.1 big1).mono ?_
  rintro e w1 ⟨rfl, hb1⟩
  have H1 := H0.step hb1
  clear H0 hb1 a0 a1 a2
  generalize hck1 : checkC S Z n3 = ck1 at *
  by_cases hk1 : ck1 = 0
  · subst hk1
    obtain ⟨T1, hN1⟩ := checkC_ok hck1
    have a1 := H1.has.1.cell 1
    have a2 := H1.has.1.cell 2
    have HT := Lib.hid (And.intro T1 (And.intro hN1 hck1))
    clear T1 hN1 hck1
    go_wp2_with fail
    refine (at_any A2 A n2 c2 n c Z d _ H1.has.2.2.2.1 H1.has.2.1 HT.out.1.one HT.out.1.cnt).mono ?_
    rintro e w2 ⟨rfl, rfl⟩
    by_cases hk2 : (atC Z d).2 = 0
    · obtain ⟨e1, e2, e3⟩ := atC_zero hk2 HT.out.1.one
      rw [e1, hk2]
      have hN := HT.out.2.1
      obtain ⟨k, hk⟩ : ∃ k : Nat, atS Z d = (k : Int) := ⟨(atS Z d).toNat, by omega⟩
      have hkn : k < n3 := by omega
      obtain ⟨b, off, rfl, _, hc⟩ := H1.has.2.2.1.at' (by omega)
      have g1 := hc k hkn
      have HB := Lib.hid (And.intro hk (And.intro hk2 H1.bel))
      rw [hk]
      clear hc e1 e2 e3 hN hk hk2 H1
      go_wp2_with fail
      go_ret2
      refine ⟨.inr ⟨by unfold cellErr_i; rw [HL.out.2.2.1, HT.out.2.2]; simpa using HB.out.2.1, ?_⟩, HB.out.2.2⟩
      rw [HB.out.1]
      rfl
    · have hne : decide ((atC Z d).2 = 0) = false := by simpa using hk2
      have HB := Lib.hid H1.bel
      clear H1
      go_wp2_with fail
      go_ret2
      refine ⟨.inl ⟨by unfold cellErr_i; rw [HL.out.2.2.1, HT.out.2.2]; simpa using hk2, ?_⟩, HB.out⟩
      unfold cellErr_i
      rw [HL.out.2.2.1, HT.out.2.2]
      rfl
  · have hne1 : decide (ck1 = 0) = false := by simpa using hk1
    have HB := Lib.hid (And.intro hck1 H1.bel)
    clear H1 hck1
    go_wp2_with fail
    go_ret2
    refine ⟨.inl ⟨by unfold cellErr_i; rw [HL.out.2.2.1, HB.out.1]; simp [hk1], ?_⟩, HB.out.2⟩
    unfold cellErr_i
    rw [HL.out.2.2.1, HB.out.1]
    simp [hk1]
end Go.Proofs.Ytgmchedfgdgenaa
