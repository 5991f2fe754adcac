/- Joined by program out of: CellS, AskM. What each says stands at its own head. -/
import Derived.Test.YtgmchedfgdgenaaJ11
import Derived.Test.YtgmchedfgdgenaaCheck
import Derived.Test.YtgmchedfgdgenaaJ6
import Derived.Test.YtgmchedfgdgenaaJ14
import Derived.Test.YtgmchedfgdgenaaJ8
import Derived.Test.YtgmchedfgdgenaaTimesS
import Derived.Test.YtgmchedfgdgenaaOutS
import Derived.Test.YtgmchedfgdgenaaGivenS
import Derived.Test.YtgmchedfgdgenaaRTimes
import Derived.Test.YtgmchedfgdgenaaJ16
import Derived.Test.YtgmchedfgdgenaaRGiven
/- factor.Cell at string, walked. Conditions: the lists read, within Go's bound. -/
namespace Go.Proofs.Ytgmchedfgdgenaa
open Go.RowKit
attribute [local go_sem] Oper.semAt_some

/-- what is wrong with asking a cell, or 0 -/
def cellErr_s (S Z : List Int) (m : Nat) (d : List Int) : Int := if checkC S Z m ≠ 0 then checkC S Z m else (atC Z d).2
def CellPost_s (S Z : List Int) (L : List ByteArray) (d : List Int) (w : World) (e : Ending) (w' : World) : Prop :=
  ((cellErr_s S Z L.length d ≠ 0 ∧ e = .returned (.tuple #[(.string ⟨#[]⟩), .int .i64 (cellErr_s S Z L.length d)])) ∨
    (cellErr_s S Z L.length d = 0 ∧ e = .returned (.tuple #[Value.string (nth L (atS Z d).toNat), .int .i64 0]))) ∧ Below w.heap.size w w'
set_option maxRecDepth 100000 in
set_option maxHeartbeats 800000 in
theorem cell_s (A1 A2 A3 A : Option Addr) (n1 c1 n2 c2 n3 c3 n c : Nat) (S Z : List Int) (L : List ByteArray) (d : List Int) (w : World)
    (h1 : Sl (Value.int .i64) w A1 n1 S) (h2 : Sl (Value.int .i64) w A2 n2 Z) (h3 : Sl (Value.string) w A3 n3 L) (hd : Sl (Value.int .i64) w A n d) :
    Calls Try.prog 59 #[.agg #[.slice A1 n1 c1, .slice A2 n2 c2, .slice A3 n3 c3], .slice A n c] w (CellPost_s S Z L d w) := by
  have HL := Lib.hid (And.intro h1.len (And.intro h2.len (And.intro h3.len hd.len)))
  have big1 := h3.big
  have H0 := ((((Held.init w).sl h1).sl h2).sl h3).sl hd |>.new 33 [.slice A1 n1 c1, .slice A2 n2 c2, .slice A3 n3 c3]
  clear h1 h2 h3 hd
  have a0 := H0.has.1.cell 0
  have a1 := H0.has.1.cell 1
  have a2 := H0.has.1.cell 2
  go_enter Try.func59, Try.ntmps59
  go_wp2_with fail
  refine (check_s A1 A2 A3 n1 c1 n2 c2 n3 c3 S Z _ H0.has.2.2.2.2.1 H0.has.2.2.2.1 big1).mono ?_
  rintro e w1 ⟨rfl, hb1⟩
  have H1 := H0.step hb1
  clear H0 hb1 a0 a1 a2
  generalize hck1 : checkC S Z n3 = ck1 at *
  by_cases hk1 : ck1 = 0
  · subst hk1
    obtain ⟨T1, hN1⟩ := checkC_ok hck1
    have a1 := H1.has.1.cell 1
    have a2 := H1.has.1.cell 2
    have HT := Lib.hid (And.intro T1 (And.intro hN1 hck1))
    clear T1 hN1 hck1
    go_wp2_with fail
    refine (at_any A2 A n2 c2 n c Z d _ H1.has.2.2.2.1 H1.has.2.1 HT.out.1.one HT.out.1.cnt).mono ?_
    rintro e w2 ⟨rfl, rfl⟩
    by_cases hk2 : (atC Z d).2 = 0
    · obtain ⟨e1, e2, e3⟩ := atC_zero hk2 HT.out.1.one
      rw [e1, hk2]
      have hN := HT.out.2.1
      obtain ⟨k, hk⟩ : ∃ k : Nat, atS Z d = (k : Int) := ⟨(atS Z d).toNat, by omega⟩
      have hkn : k < n3 := by omega
      obtain ⟨b, off, rfl, _, hc⟩ := H1.has.2.2.1.at' (by omega)
      have g1 := hc k hkn
      have HB := Lib.hid (And.intro hk (And.intro hk2 H1.bel))
      rw [hk]
      clear hc e1 e2 e3 hN hk hk2 H1
      go_wp2_with fail
      go_ret2
      refine ⟨.inr ⟨by unfold cellErr_s; rw [HL.out.2.2.1, HT.out.2.2]; simpa using HB.out.2.1, ?_⟩, HB.out.2.2⟩
      rw [HB.out.1]
      rfl
    · have hne : decide ((atC Z d).2 = 0) = false := by simpa using hk2
      have HB := Lib.hid H1.bel
      clear H1
      go_wp2_with fail
      go_ret2
      refine ⟨.inl ⟨by unfold cellErr_s; rw [HL.out.2.2.1, HT.out.2.2]; simpa using hk2, ?_⟩, HB.out⟩
      unfold cellErr_s
      rw [HL.out.2.2.1, HT.out.2.2]
      rfl
  · have hne1 : decide (ck1 = 0) = false := by simpa using hk1
    have HB := Lib.hid (And.intro hck1 H1.bel)
    clear H1 hck1
    go_wp2_with fail
    go_ret2
    refine ⟨.inl ⟨by unfold cellErr_s; rw [HL.out.2.2.1, HB.out.1]; simp [hk1], ?_⟩, HB.out.2⟩
    unfold cellErr_s
    rw [HL.out.2.2.1, HB.out.1]
    simp [hk1]
end Go.Proofs.Ytgmchedfgdgenaa
/- What the document's side and the code answer, error or not, in one form. -/
namespace Go.Proofs.Ytgmchedfgdgenaa
open Go.RowKit

theorem Trio.none {α β γ : Type} (ea : α → Value) (eb : β → Value) (ec : γ → Value) (w : World) (base : Nat) (ta tb tc : TypeId) : Trio ea eb ec w base ta tb tc none 0 0 [] none 0 0 [] none 0 0 [] :=
  ⟨OwnR.nil _ _ _ _, OwnR.nil _ _ _ _, OwnR.nil _ _ _ _, (fun _ e => by cases e), (fun _ e => by cases e), (fun _ e => by cases e)⟩
/-- a product's cell by its pair -/
def mulP (L1 L2 : List ByteArray) (p : Int × Int) : ByteArray := mulF_s (nth L1 p.1.toNat) (nth L2 p.2.toNat)
theorem prod_pair (S1 Z1 : List Int) (L1 : List ByteArray) (S2 Z2 : List Int) (L2 : List ByteArray) (N : Nat) : prod_s S1 Z1 L1 S2 Z2 L2 N = (pairL S1 Z1 S2 Z2 N).map (mulP L1 L2) := by
  unfold prod_s pairL; rw [List.map_map]; rfl
theorem times_u (S1 Z1 S2 Z2 : List Int) (L1 L2 : List ByteArray) (hmul : ∀ a b, a ∈ L1 → b ∈ L2 → MulOk_s a b) :
    ∃ (err : Int) (U UZ : List Int) (PL : List (Int × Int)), PL.length ≤ 2147483647 ∧ UZ.length = U.length ∧ U.length ≤ S1.length + S2.length ∧
      (∀ p, p ∈ PL → 0 ≤ p.1 ∧ p.1.toNat < L1.length ∧ 0 ≤ p.2 ∧ p.2.toNat < L2.length) ∧
      (∀ (A1 A2 B1 B2 : Option Addr) (n1 c1 n2 c2 m1 d1 m2 d2 k1 k2 : Nat) (w : World), Sl (Value.int .i64) w A1 n1 S1 → Sl (Value.int .i64) w A2 n2 Z1 → Sl (Value.int .i64) w B1 m1 S2 → Sl (Value.int .i64) w B2 m2 Z2 → (n1 + m1 + 1) * 8 ≤ 140737488351232 → k1 = L1.length → k2 = L2.length →
        Calls Try.prog 52 #[.agg #[.slice A1 n1 c1, .slice A2 n2 c2, .int .i64 (k1 : Int)], .agg #[.slice B1 m1 d1, .slice B2 m2 d2, .int .i64 (k2 : Int)]] w fun e w' =>
          ∃ A c B d C k M, e = .returned (.tuple #[.agg #[.slice A U.length c, .slice B U.length d, .int .i64 M], .slice C PL.length k, .int .i64 err]) ∧ Sl (Value.int .i64) w' A U.length U ∧ Sl (Value.int .i64) w' B U.length UZ ∧ OwnM pairE w' w.heap.size 111 C PL.length k PL ∧ ((A = A1 ∧ U.length = n1) ∨ ∀ g o, A = some ⟨g, o, none⟩ → w.heap.size ≤ g) ∧ ((B = A2 ∧ U.length = n2) ∨ ∀ g o, B = some ⟨g, o, none⟩ → w.heap.size ≤ g) ∧ Below w.heap.size w w') ∧
      (∀ (A1 A2 A3 B1 B2 B3 : Option Addr) (n1 c1 n2 c2 n3 c3 m1 d1 m2 d2 m3 d3 : Nat) (w : World), Sl (Value.int .i64) w A1 n1 S1 → Sl (Value.int .i64) w A2 n2 Z1 → Sl Value.string w A3 n3 L1 → Sl (Value.int .i64) w B1 m1 S2 → Sl (Value.int .i64) w B2 m2 Z2 → Sl Value.string w B3 m3 L2 → (n1 + m1) * 8 ≤ 140737488351232 →
        Calls Try.prog 53 #[.iface 45 (.agg #[]), .agg #[.slice A1 n1 c1, .slice A2 n2 c2, .slice A3 n3 c3], .agg #[.slice B1 m1 d1, .slice B2 m2 d2, .slice B3 m3 d3]] w fun e w' =>
          ∃ A c B d C k, e = .returned (.tuple #[.agg #[.slice A U.length c, .slice B U.length d, .slice C PL.length k], .int .i64 err]) ∧ Trio (Value.int .i64) (Value.int .i64) Value.string w' w.heap.size 3 3 9 A U.length c U B U.length d UZ C PL.length k (PL.map (mulP L1 L2)) ∧ Below w.heap.size w w') := by
  by_cases he : timesErr S1 Z1 L1.length S2 Z2 L2.length = 0
  · have hc1 : checkC S1 Z1 L1.length = 0 := Classical.byContradiction fun h => by unfold timesErr at he; rw [if_pos h] at he; exact h he
    have hc2 : checkC S2 Z2 L2.length = 0 := Classical.byContradiction fun h => by unfold timesErr at he; rw [if_neg (by simpa using hc1), if_pos h] at he; exact h he
    obtain ⟨T1, e1⟩ := checkC_ok hc1
    obtain ⟨T2, e2⟩ := checkC_ok hc2
    have hu := union_ok (by rw [← timesErr_union hc1 hc2]; exact he)
    obtain ⟨N, hN⟩ : ∃ N : Nat, (N : Int) = sufP (uniZ S1 Z1 S2 Z2) 0 := ⟨(sufP (uniZ S1 Z1 S2 Z2) 0).toNat, by have := sufP_pos (uniZ_one T1 T2) 0; omega⟩
    have hpl : (pairL S1 Z1 S2 Z2 N).length = N := by simp [pairL]
    refine ⟨0, uniL S1 S2, uniZ S1 Z1 S2 Z2, pairL S1 Z1 S2 Z2 N, by rw [hpl]; have := hu.2; omega, by simp [uniZ], ?_, ?_, ?_, ?_⟩
    · exact uni_length_le S1 S2
    · intro p hp
      obtain ⟨i, _, rfl⟩ := List.mem_map.1 hp
      have q1 := atC_zero (congrArg Prod.snd (part_atC1 (S2 := S2) (Z2 := Z2) T1 T2 i)) T1.one
      have q2 := atC_zero (congrArg Prod.snd (part_atC2 T1 T2 hu.1 i)) T2.one
      rw [part_atC1 T1 T2 i] at q1
      rw [part_atC2 T1 T2 hu.1 i] at q2
      rw [e1] at q1
      rw [e2] at q2
      unfold pairF
      simp only
      omega
    · intro A1 A2 B1 B2 n1 c1 n2 c2 m1 d1 m2 d2 k1 k2 w h1 h2 h3 h4 hb hk1 hk2
      refine (rtimes_any A1 A2 B1 B2 n1 c1 n2 c2 m1 d1 m2 d2 k1 k2 S1 Z1 S2 Z2 w h1 h2 h3 h4 hb).mono ?_
      intro e w' hp
      subst hk1 hk2
      rcases hp with ⟨h, _⟩ | ⟨_, A, c, B, d, C, k, N', hN', rfl, sA, sB, sC, oA, oB, hbw⟩
      · exact absurd he h
      · obtain rfl : N' = N := by omega
        rw [hpl]
        exact ⟨A, c, B, d, C, k, _, rfl, sA, sB, sC, oA, oB.imp (fun h => ⟨h.1, by have := h1.len; have := h2.len; have := T1.len; have := h.2; omega⟩) id, hbw⟩
    · intro A1 A2 A3 B1 B2 B3 n1 c1 n2 c2 n3 c3 m1 d1 m2 d2 m3 d3 w h1 h2 h3 k1 k2 k3 hb
      refine (times_s A1 A2 A3 B1 B2 B3 n1 c1 n2 c2 n3 c3 m1 d1 m2 d2 m3 d3 S1 Z1 S2 Z2 L1 L2 w h1 h2 h3 k1 k2 k3 hb hmul).mono ?_
      intro e w' hp
      rcases hp with ⟨h, _⟩ | ⟨_, A, c, B, d, C, k, N', hN', rfl, T, hbw⟩
      · exact absurd he h
      · obtain rfl : N' = N := by omega
        rw [hpl, ← prod_pair]
        exact ⟨A, c, B, d, C, k, rfl, T, hbw⟩
  · refine ⟨timesErr S1 Z1 L1.length S2 Z2 L2.length, [], [], [], by simp, rfl, by simp, (fun p h => by cases h), ?_, ?_⟩
    · intro A1 A2 B1 B2 n1 c1 n2 c2 m1 d1 m2 d2 k1 k2 w h1 h2 h3 h4 hb hk1 hk2
      refine (rtimes_any A1 A2 B1 B2 n1 c1 n2 c2 m1 d1 m2 d2 k1 k2 S1 Z1 S2 Z2 w h1 h2 h3 h4 hb).mono ?_
      intro e w' hp
      subst hk1 hk2
      rcases hp with ⟨_, rfl, hbw⟩ | ⟨h, _⟩
      · exact ⟨none, 0, none, 0, none, 0, 0, rfl, Sl.nil _ _ _, Sl.nil _ _ _, OwnM.nil _ _ _ _, .inr (fun _ _ e => by cases e), .inr (fun _ _ e => by cases e), hbw⟩
      · exact absurd h he
    · intro A1 A2 A3 B1 B2 B3 n1 c1 n2 c2 n3 c3 m1 d1 m2 d2 m3 d3 w h1 h2 h3 k1 k2 k3 hb
      refine (times_s A1 A2 A3 B1 B2 B3 n1 c1 n2 c2 n3 c3 m1 d1 m2 d2 m3 d3 S1 Z1 S2 Z2 L1 L2 w h1 h2 h3 k1 k2 k3 hb hmul).mono ?_
      intro e w' hp
      rcases hp with ⟨_, rfl, hbw⟩ | ⟨h, _⟩
      · exact ⟨none, 0, none, 0, none, 0, rfl, Trio.none _ _ _ _ _ _ _ _, hbw⟩
      · exact absurd h he
theorem OutAt.uniq {S Z : List Int} {v : Int} {m i z step P i' z' step' P' : Nat} (h : OutAt S Z v m i z step P) (h' : OutAt S Z v m i' z' step' P') (hn : S.Nodup) : i' = i ∧ z' = z ∧ step' = step ∧ P' = P := by
  have e1 := findF_at hn h.lt h.is
  have e2 := findF_at hn h'.lt h'.is
  obtain rfl : i' = i := by omega
  obtain rfl : z' = z := by have := h.size; have := h'.size; omega
  obtain rfl : step' = step := by have := h.apart; have := h'.apart; omega
  have h1 := h.m
  rw [h'.m] at h1
  have hp : 0 < step' * z' := Nat.mul_pos h.s1 h.z1
  exact ⟨rfl, rfl, rfl, Nat.eq_of_mul_eq_mul_right hp h1⟩
theorem OutAt.part {S Z : List Int} {v : Int} {m i z step P : Nat} (h : OutAt S Z v m i z step P) (L : List ByteArray) (hm : m = L.length) {t : Nat} (ht : t < P * step) : (partL_s L z step t z).length ≤ L.length ∧ ∀ y, y ∈ partL_s L z step t z → y ∈ L := by
  subst hm
  refine ⟨?_, fun y hy => ?_⟩
  · have h1 := h.m
    have hp : 1 ≤ P := by
      rcases Nat.eq_zero_or_pos P with h | h
      · rw [h, Nat.zero_mul] at ht; omega
      · exact h
    have h2 : 1 * z ≤ step * z := Nat.mul_le_mul_right _ h.s1
    have h3 : 1 * (step * z) ≤ P * (step * z) := Nat.mul_le_mul_right _ hp
    simp [partL_s]
    omega
  · obtain ⟨j, hj, rfl⟩ := List.mem_map.1 hy
    exact nth_mem (h.first_lt ht (List.mem_range.1 hj))
theorem RowsF.none (base : Nat) (enc : Int → Value) (w : World) : RowsF base enc w none 0 ([] : List (List Int)) :=
  ⟨⟨[], Sl.nil _ _ _, (fun _ _ e => by cases e), fun i hi => by cases hi⟩, rfl⟩
/-- a row's sum -/
def sumR (L : List ByteArray) (r : List Int) : ByteArray := foldF_s zeroF_s (r.map fun j => nth L j.toNat)
theorem out_u (S Z : List Int) (L : List ByteArray) (v : Int) (hsum : ∀ R : List ByteArray, R.length ≤ L.length → (∀ y, y ∈ R → y ∈ L) → FoldOk_s zeroF_s R) :
    ∃ (err : Int) (U UZ : List Int) (RL : List (List Int)), RL.length ≤ 2147483647 ∧ UZ.length = U.length ∧ U.length ≤ S.length ∧
      (∀ r, r ∈ RL → r.length ≤ L.length ∧ ∀ j, j ∈ r → 0 ≤ j ∧ j.toNat < L.length) ∧
      (∀ (A1 A2 : Option Addr) (n1 c1 n2 c2 m : Nat) (w : World), Sl (Value.int .i64) w A1 n1 S → Sl (Value.int .i64) w A2 n2 Z → (n1 + 1) * 8 ≤ 140737488351232 → m = L.length →
        Calls Try.prog 54 #[.agg #[.slice A1 n1 c1, .slice A2 n2 c2, .int .i64 (m : Int)], .int .i64 v] w fun e w' =>
          ∃ A c B d C k M, e = .returned (.tuple #[.agg #[.slice A U.length c, .slice B U.length d, .int .i64 M], .slice C RL.length k, .int .i64 err]) ∧ OwnR (Value.int .i64) w' w.heap.size 3 A U.length c U ∧ OwnR (Value.int .i64) w' w.heap.size 3 B U.length d UZ ∧ RowsF w.heap.size (Value.int .i64) w' C RL.length RL ∧ Below w.heap.size w w') ∧
      (∀ (A1 A2 A3 : Option Addr) (n1 c1 n2 c2 n3 c3 : Nat) (w : World), Sl (Value.int .i64) w A1 n1 S → Sl (Value.int .i64) w A2 n2 Z → Sl Value.string w A3 n3 L → n1 * 8 ≤ 140737488351232 → n2 ≤ c2 →
        Calls Try.prog 55 #[.iface 45 (.agg #[]), .agg #[.slice A1 n1 c1, .slice A2 n2 c2, .slice A3 n3 c3], .int .i64 v] w fun e w' =>
          ∃ A c B d C k, e = .returned (.tuple #[.agg #[.slice A U.length c, .slice B U.length d, .slice C RL.length k], .int .i64 err]) ∧ Trio (Value.int .i64) (Value.int .i64) Value.string w' w.heap.size 3 3 9 A U.length c U B U.length d UZ C RL.length k (RL.map (sumR L)) ∧ Below w.heap.size w w') := by
  by_cases he : outErr S Z L.length v = 0
  · have hc : checkC S Z L.length = 0 := Classical.byContradiction fun h => by unfold outErr at he; rw [if_pos h] at he; exact h he
    obtain ⟨T, e1⟩ := checkC_ok hc
    have hn := asc_nodup T.asc
    have hin : isIn cmpI v S = true := Classical.byContradiction fun h => by unfold outErr at he; rw [if_neg (by simpa using hc), if_neg h] at he; cases he
    obtain ⟨i, hi, rfl⟩ := mem_nth (isIn_mem.1 hin)
    obtain ⟨z, step, P, hO⟩ := outAt_of T e1 hi
    have hQ : P * step ≤ L.length := by
      have h1 := hO.m
      rw [← Nat.mul_assoc] at h1
      have h2 : P * step * 1 ≤ P * step * z := Nat.mul_le_mul_left _ hO.z1
      omega
    have hl : ((List.range (P * step)).map (rowL z step L.length)).length = P * step := by simp
    have hU : (S.take i ++ S.drop (i + 1)).length = S.length - 1 := by simp; omega
    have hUZ : (Z.take i ++ Z.drop (i + 1)).length = S.length - 1 := by have := T.len; simp; omega
    refine ⟨0, S.take i ++ S.drop (i + 1), Z.take i ++ Z.drop (i + 1), (List.range (P * step)).map (rowL z step L.length), by rw [hl]; have := T.cnt; omega, by rw [hU, hUZ], by rw [hU]; omega, ?_, ?_, ?_⟩
    · intro r hr
      obtain ⟨t, ht, rfl⟩ := List.mem_map.1 hr
      have ht := List.mem_range.1 ht
      refine ⟨rowL_length z step L.length t, fun j hj => ?_⟩
      rw [hO.rows ht] at hj
      obtain ⟨q, hq, rfl⟩ := List.mem_map.1 hj
      have := hO.first_lt ht (List.mem_range.1 hq)
      exact ⟨Int.natCast_nonneg _, by rw [Int.toNat_natCast]; exact this⟩
    · intro A1 A2 n1 c1 n2 c2 m w h1 h2 hb hm
      subst hm
      refine (rout_any A1 A2 n1 c1 n2 c2 L.length S Z (nth S i) w h1 h2 hb).mono ?_
      intro e w' hp
      rcases hp with ⟨h, _⟩ | ⟨_, p', z', step', P', hO', A, c, B, d, C, k, rfl, sA, sB, hR, hbw⟩
      · exact absurd he h
      · obtain ⟨rfl, rfl, rfl, rfl⟩ := hO.uniq hO' hn
        rw [hl, hU]
        exact ⟨A, c, B, d, C, k, _, rfl, sA, sB, hR, hbw⟩
    · intro A1 A2 A3 n1 c1 n2 c2 n3 c3 w h1 h2 h3 hb hc2
      refine (out_s A1 A2 A3 n1 c1 n2 c2 n3 c3 S Z L (nth S i) w h1 h2 h3 hb hc2 fun i' z' step' P' hO' t ht => ?_).mono ?_
      · exact hsum _ (hO'.part L rfl ht).1 (hO'.part L rfl ht).2
      · intro e w' hp
        rcases hp with ⟨h, _⟩ | ⟨_, p', z', step', P', hO', A, c, B, d, C, k, rfl, TT, hbw⟩
        · exact absurd he h
        · obtain ⟨rfl, rfl, rfl, rfl⟩ := hO.uniq hO' hn
          have hcells : ((List.range (P' * step')).map (rowL z' step' L.length)).map (sumR L) = outL_s L z' step' (P' * step') := by
            unfold outL_s
            rw [List.map_map]
            refine List.map_congr_left fun t ht => ?_
            show sumR L (rowL z' step' L.length t) = _
            unfold sumR partL_s
            rw [hO.rows (List.mem_range.1 ht), List.map_map]
            rfl
          rw [hl, hU, hcells]
          exact ⟨A, c, B, d, C, k, rfl, TT, hbw⟩
  · refine ⟨outErr S Z L.length v, [], [], [], by simp, rfl, by simp, (fun p h => by cases h), ?_, ?_⟩
    · intro A1 A2 n1 c1 n2 c2 m w h1 h2 hb hm
      subst hm
      refine (rout_any A1 A2 n1 c1 n2 c2 L.length S Z v w h1 h2 hb).mono ?_
      intro e w' hp
      rcases hp with ⟨_, rfl, hbw⟩ | ⟨h, _⟩
      · exact ⟨none, 0, none, 0, none, 0, 0, rfl, OwnR.nil _ _ _ _, OwnR.nil _ _ _ _, RowsF.none _ _ _, hbw⟩
      · exact absurd h he
    · intro A1 A2 A3 n1 c1 n2 c2 n3 c3 w h1 h2 h3 hb hc2
      refine (out_s A1 A2 A3 n1 c1 n2 c2 n3 c3 S Z L v w h1 h2 h3 hb hc2 fun i' z' step' P' hO' t ht => ?_).mono ?_
      · exact hsum _ (hO'.part L rfl ht).1 (hO'.part L rfl ht).2
      · intro e w' hp
        rcases hp with ⟨_, rfl, hbw⟩ | ⟨h, _⟩
        · exact ⟨none, 0, none, 0, none, 0, rfl, Trio.none _ _ _ _ _ _ _ _, hbw⟩
        · exact absurd h he
theorem given_u (S Z : List Int) (L : List ByteArray) (v x : Int) :
    ∃ (err : Int) (U UZ : List Int) (R : List Int), R.length ≤ 2147483647 ∧ UZ.length = U.length ∧ U.length ≤ S.length ∧
      (∀ j, j ∈ R → 0 ≤ j ∧ j.toNat < L.length) ∧
      (∀ (A1 A2 : Option Addr) (n1 c1 n2 c2 m : Nat) (w : World), Sl (Value.int .i64) w A1 n1 S → Sl (Value.int .i64) w A2 n2 Z → (n1 + 1) * 8 ≤ 140737488351232 → m = L.length →
        Calls Try.prog 56 #[.agg #[.slice A1 n1 c1, .slice A2 n2 c2, .int .i64 (m : Int)], .agg #[.int .i64 v, .int .i64 x]] w fun e w' =>
          ∃ A c B d C k M, e = .returned (.tuple #[.agg #[.slice A U.length c, .slice B U.length d, .int .i64 M], .slice C R.length k, .int .i64 err]) ∧ OwnR (Value.int .i64) w' w.heap.size 3 A U.length c U ∧ OwnR (Value.int .i64) w' w.heap.size 3 B U.length d UZ ∧ OwnR (Value.int .i64) w' w.heap.size 3 C R.length k R ∧ Below w.heap.size w w') ∧
      (∀ (A1 A2 A3 : Option Addr) (n1 c1 n2 c2 n3 c3 : Nat) (w : World), Sl (Value.int .i64) w A1 n1 S → Sl (Value.int .i64) w A2 n2 Z → Sl Value.string w A3 n3 L → n1 * 8 ≤ 140737488351232 → n2 ≤ c2 →
        Calls Try.prog 57 #[.agg #[.slice A1 n1 c1, .slice A2 n2 c2, .slice A3 n3 c3], .agg #[.int .i64 v, .int .i64 x]] w fun e w' =>
          ∃ A c B d C k, e = .returned (.tuple #[.agg #[.slice A U.length c, .slice B U.length d, .slice C R.length k], .int .i64 err]) ∧ Trio (Value.int .i64) (Value.int .i64) Value.string w' w.heap.size 3 3 9 A U.length c U B U.length d UZ C R.length k (R.map fun j => nth L j.toNat) ∧ Below w.heap.size w w') := by
  by_cases he : givenErr S Z L.length v x = 0
  · have ho : outErr S Z L.length v = 0 := Classical.byContradiction fun h => by unfold givenErr at he; rw [if_pos h] at he; exact h he
    have hc : checkC S Z L.length = 0 := Classical.byContradiction fun h => by unfold outErr at ho; rw [if_pos h] at ho; exact h ho
    obtain ⟨T, e1⟩ := checkC_ok hc
    have hn := asc_nodup T.asc
    have hin : isIn cmpI v S = true := Classical.byContradiction fun h => by unfold outErr at ho; rw [if_neg (by simpa using hc), if_neg h] at ho; cases ho
    obtain ⟨i, hi, rfl⟩ := mem_nth (isIn_mem.1 hin)
    obtain ⟨z, step, P, hO⟩ := outAt_of T e1 hi
    have hQ : P * step ≤ L.length := by
      have h1 := hO.m
      rw [← Nat.mul_assoc] at h1
      have h2 : P * step * 1 ≤ P * step * z := Nat.mul_le_mul_left _ hO.z1
      omega
    have hx : 0 ≤ x ∧ x < (z : Int) := by
      unfold givenErr at he
      rw [if_neg (by simpa using ho), hO.find hn, Int.toNat_natCast, hO.size] at he
      by_cases h : x < 0 ∨ (z : Int) ≤ x
      · rw [if_pos h] at he; cases he
      · omega
    have hl : (givenL z step x.toNat (P * step)).length = P * step := by simp [givenL]
    have hU : (S.take i ++ S.drop (i + 1)).length = S.length - 1 := by simp; omega
    have hUZ : (Z.take i ++ Z.drop (i + 1)).length = S.length - 1 := by have := T.len; simp; omega
    refine ⟨0, S.take i ++ S.drop (i + 1), Z.take i ++ Z.drop (i + 1), givenL z step x.toNat (P * step), by rw [hl]; have := T.cnt; omega, by rw [hU, hUZ], by rw [hU]; omega, ?_, ?_, ?_⟩
    · intro j hj
      obtain ⟨t, ht, rfl⟩ := List.mem_map.1 hj
      have := hO.first_lt (List.mem_range.1 ht) (k := x.toNat) (by omega)
      exact ⟨Int.natCast_nonneg _, by rw [Int.toNat_natCast]; exact this⟩
    · intro A1 A2 n1 c1 n2 c2 m w h1 h2 hb hm
      subst hm
      refine (rgiven_any A1 A2 n1 c1 n2 c2 L.length S Z (nth S i) x w h1 h2 hb).mono ?_
      intro e w' hp
      rcases hp with ⟨h, _⟩ | ⟨_, p', z', step', P', hO', _, _, A, c, B, d, C, k, rfl, sA, sB, hR, hbw⟩
      · exact absurd he h
      · obtain ⟨rfl, rfl, rfl, rfl⟩ := hO.uniq hO' hn
        rw [hl, hU]
        exact ⟨A, c, B, d, C, k, _, rfl, sA, sB, hR, hbw⟩
    · intro A1 A2 A3 n1 c1 n2 c2 n3 c3 w h1 h2 h3 hb hc2
      refine (given_s A1 A2 A3 n1 c1 n2 c2 n3 c3 S Z L (nth S i) x w h1 h2 h3 hb hc2).mono ?_
      intro e w' hp
      rcases hp with ⟨h, _⟩ | ⟨_, p', z', step', P', hO', _, _, A, c, B, d, C, k, rfl, TT, hbw⟩
      · exact absurd he h
      · obtain ⟨rfl, rfl, rfl, rfl⟩ := hO.uniq hO' hn
        have hcells : ((givenL z' step' x.toNat (P' * step')).map fun j => nth L j.toNat) = givL_s L z' step' x.toNat (P' * step') := by
          unfold givL_s givenL
          rw [List.map_map]
          rfl
        rw [hl, hU, hcells]
        exact ⟨A, c, B, d, C, k, rfl, TT, hbw⟩
  · refine ⟨givenErr S Z L.length v x, [], [], [], by simp, rfl, by simp, (fun p h => by cases h), ?_, ?_⟩
    · intro A1 A2 n1 c1 n2 c2 m w h1 h2 hb hm
      subst hm
      refine (rgiven_any A1 A2 n1 c1 n2 c2 L.length S Z v x w h1 h2 hb).mono ?_
      intro e w' hp
      rcases hp with ⟨_, rfl, hbw⟩ | ⟨h, _⟩
      · exact ⟨none, 0, none, 0, none, 0, 0, rfl, OwnR.nil _ _ _ _, OwnR.nil _ _ _ _, OwnR.nil _ _ _ _, hbw⟩
      · exact absurd h he
    · intro A1 A2 A3 n1 c1 n2 c2 n3 c3 w h1 h2 h3 hb hc2
      refine (given_s A1 A2 A3 n1 c1 n2 c2 n3 c3 S Z L v x w h1 h2 h3 hb hc2).mono ?_
      intro e w' hp
      rcases hp with ⟨_, rfl, hbw⟩ | ⟨h, _⟩
      · exact ⟨none, 0, none, 0, none, 0, rfl, Trio.none _ _ _ _ _ _ _ _, hbw⟩
      · exact absurd h he
theorem cell_u (S Z : List Int) (L : List ByteArray) (d : List Int) :
    (rcellF S Z L.length d).2 = cellErr_s S Z L.length d ∧ (cellErr_s S Z L.length d = 0 → (rcellF S Z L.length d).1 = ((atS Z d).toNat : Int) ∧ (atS Z d).toNat < L.length) := by
  unfold rcellF cellErr_s
  by_cases hc : checkC S Z L.length = 0
  · rw [if_neg (by simpa using hc), if_neg (by simpa using hc)]
    refine ⟨rfl, fun h => ?_⟩
    obtain ⟨T, e1⟩ := checkC_ok hc
    have q := atC_zero h T.one
    omega
  · rw [if_pos hc, if_pos hc]
    exact ⟨rfl, fun h => absurd h hc⟩
end Go.Proofs.Ytgmchedfgdgenaa
