/- credencelaw16.SepBlanket, walked: it returns true. Conditions: the parents read, within Go's bound. -/
import Derived.Test.YtdlnglffimcopaaBlankR
import Derived.Test.YtdlnglffimcopaaLawS3
namespace Go.Proofs.Ytdlnglffimcopaa.SepBlanket
open Go.RowKit

open Classical in
noncomputable def blW (Ps : List (List Int)) (a : Int) : List Int := if badE Ps [a] = 0 then castL (ptsOf Ps.length (Bl (toG Ps) a.toNat)) else []
theorem prog (A : Option Addr) (n c : Nat) (Ps : List (List Int)) (a : Int) (w : World) (h : Rows (Value.int .i64) w A n Ps) (hn : n * 24 ≤ 140737488351232) :
    Calls Try.prog 28 #[.slice A n c, .int .i64 a] w fun e w' => ∃ X k d, e = .returned (.tuple #[.slice X k d, .int .i64 (badE Ps [a])]) ∧ OwnR (Value.int .i64) w' w.heap.size 3 X k d (blW Ps a) ∧ Below w.heap.size w w' := by
  refine (blanket_any A n c Ps a w h hn).mono ?_
  rintro e w' ⟨hb, X, k, d, rfl, h1, h2⟩
  rw [lookE_badE] at h1 h2 ⊢
  refine ⟨X, k, d, rfl, ?_, hb⟩
  unfold blW
  by_cases hE : badE Ps [a] = 0
  · rw [if_pos hE]; exact h2 hE
  · obtain ⟨rfl, rfl, rfl⟩ := h1 hE
    rw [if_neg hE]; exact OwnR.nil _ _ _ _
theorem ref (A : Option Addr) (n c : Nat) (Ps : List (List Int)) (a : Int) (w : World) (h : Rows (Value.int .i64) w A n Ps) (hn : n * 24 ≤ 140737488351232) :
    Calls Try.prog 27 #[.slice A n c, .int .i64 a] w fun e w' => ∃ X k d, e = .returned (.tuple #[.slice X k d, .int .i64 (badE Ps [a])]) ∧ Sl (Value.int .i64) w' X k (blW Ps a) ∧ Below w.heap.size w w' := by
  refine (blanket_ref A n c Ps a w h hn).mono ?_
  rintro e w' ⟨hb, X, k, d, rfl, h1, h2⟩
  refine ⟨X, k, d, rfl, ?_, hb⟩
  unfold blW
  by_cases hE : badE Ps [a] = 0
  · rw [if_pos hE]; exact h2 hE
  · obtain ⟨rfl, rfl, rfl⟩ := h1 hE
    rw [if_neg hE]; exact Sl.nil _ _ _
theorem blW_length (Ps : List (List Int)) (a : Int) : (blW Ps a).length ≤ Ps.length := by
  unfold blW
  split
  · unfold castL; rw [List.length_map]; exact ptsOf_length_le _ _
  · simp

set_option maxRecDepth 100000 in
set_option maxHeartbeats 1600000 in
theorem law1 (A : Option Addr) (n m c : Nat) (Ps : List (List Int)) (a : Int) (w : World) (h : Rows (Value.int .i64) w A m Ps) (hnm : (min ((n : Nat) : Int) 40).toNat = m) (hmc : m ≤ c) (hn : n * 24 ≤ 140737488351232) (hb : ∀ i, i < m → (nth Ps i).length * 8 ≤ 140737488351232) :
    Calls Try.prog 6 #[.slice A n c, .int .i64 a] w fun e w' => e = .returned (.bool true) ∧ Below w.heap.size w w' := by
  have hm40 : m ≤ 40 := by omega
  have HL := Lib.hid (And.intro h.len hb); clear hb
  have H0 := (Held.init w).and (Q := fun w => Rows (Value.int .i64) w A m Ps) h
  obtain ⟨wa, hwa⟩ : ∃ wa : World, wa = w := ⟨_, rfl⟩
  subst hwa
  clear h
  go_enter Try.func6, Try.ntmps6
  have q1 : min ((n : Nat) : Int) 40 ≤ c := by omega
  have q2 : 0 ≤ min ((n : Nat) : Int) 40 := by omega
  have HM := Lib.hid hnm; clear hnm
  go_wp2_with fail
  rw [HM.out]
  refine (twin_any A m c Ps _ H0.has.1 (by omega) HL.out.2).mono ?_
  rintro e w1 ⟨B, d, vs, rfl, ht, hb⟩
  have H1 := (H0.step hb).and (Q := fun w => Twin w wa.heap.size B m d Ps vs) ht
  clear H0 hb ht
  go_wp2_with fail
  refine (ref A m c Ps a _ H1.has.2.1 (by omega)).mono ?_
  rintro e w2 ⟨P, kP, dP, rfl, hP, hb⟩
  have H2 := (H1.step hb).sl hP
  clear H1 hb hP
  have hrows := H2.has.2.1.rows HL.out.1 (by omega) (fun i hi => by have := HL.out.2 i hi; omega)
  go_wp2_with fail
  refine (prog B m d Ps a _ hrows (by omega)).mono ?_
  rintro e w3 ⟨X, kX, dX, rfl, hX, hb⟩
  have H3 := (H2.step hb).and (Q := fun w => OwnR (Value.int .i64) w w2.heap.size 3 X kX dX (blW Ps a)) hX
  have hb23 := Lib.hid hb
  clear hb hX hrows
  have hrows := H3.has.2.2.1.rows HL.out.1 (by omega) (fun i hi => by have := HL.out.2 i hi; omega)
  go_wp2_with fail
  refine (prog B m d Ps a _ hrows (by omega)).mono ?_
  rintro e w4 ⟨Y, kY, dY, rfl, hY, hb⟩
  have H4 := (H3.step hb).and (Q := fun w => OwnR (Value.int .i64) w w3.heap.size 3 Y kY dY (blW Ps a)) hY
  have hb34 := Lib.hid hb
  clear hb hY hrows
  have hlX := H4.has.2.1.length
  have hlY := H4.has.1.length
  have hlP := H4.has.2.2.1.len
  obtain rfl : kX = kP := by omega
  obtain rfl : kY = kX := by omega
  have hk40 : kY ≤ 40 := by have := blW_length Ps a; rw [HL.out.1] at this; omega
  have hXr := H3.has.1.at_row
  have hYr := H4.has.1.fr
  have hPl := H2.has.1
  have hyx : ∀ b off, 0 < kY → Y = some ⟨b, off, none⟩ → X ≠ some ⟨b, 0, none⟩ := fun b off _ e e2 => by
    have h1 := hYr b off e
    rcases hXr with h2 | ⟨g, h2, _, h3⟩
    · rw [e2] at h2; cases h2
    · rw [e2] at h2; injection h2 with h2; injection h2 with h2; omega
  have hpx : ∀ b off, 0 < kY → P = some ⟨b, off, none⟩ → X ≠ some ⟨b, 0, none⟩ := fun b off hp e e2 => by
    obtain ⟨b', off', e', hlt, _⟩ := hPl.at' hp
    rw [e] at e'; injection e' with e'; injection e' with e' _ _
    have h1 := H3.has.1.fr b 0 e2
    omega
  have HF := Lib.hid (And.intro hyx (And.intro hpx (And.intro H2 H4))); clear hyx hpx hXr hYr hPl H2 H3 hlX hlY hlP
  go_wp2_with fail
  refine (own_any w2.heap.size X Y P kY dX dY dP (blW Ps a) _ H4.has.2.1 (H4.has.1.sl (by omega)) H4.has.2.2.1 HF.out.1 HF.out.2.1 (by omega) (by have := hb23.out.size; have := hb34.out.size; omega)).mono ?_
  rintro e w5 ⟨rfl, hb5⟩
  have hb25 : Below w2.heap.size w2 w5 := (hb23.out.trans (hb34.out.mono hb23.out.size)).trans hb5
  have H5 := HF.out.2.2.1.step hb25
  clear H4 hb5 hb25
  go_wp2_with fail
  refine (kept_any wa.heap.size B A m d c Ps vs _ H5.has.2.1 H5.has.2.2.1 (by omega) HL.out.2).mono ?_
  rintro e w6 ⟨rfl, t, rfl⟩
  have H6 := H5.drewN t
  clear H5
  go_wp2_with fail
  go_ret
  exact ⟨rfl, H6.bel⟩
theorem law (A : Option Addr) (n c : Nat) (Ps : List (List Int)) (a : Int) (w : World) (h : Rows (Value.int .i64) w A n Ps) (hc : n ≤ c) (hn : n * 24 ≤ 140737488351232) (hb : ∀ i, i < n → (nth Ps i).length * 8 ≤ 140737488351232) :
    Calls Try.prog 6 #[.slice A n c, .int .i64 a] w fun e w' => e = .returned (.bool true) ∧ Below w.heap.size w w' :=
  law1 A n (min ((n : Nat) : Int) 40).toNat c (Ps.take (min ((n : Nat) : Int) 40).toNat) a w (h.take (by omega)) rfl (by omega) hn (fun i hi => by rw [nth_take hi]; exact hb i (by omega))
theorem lawB (A : Option Addr) (n c : Nat) (Ps : List (List Int)) (a : Int) (w : World) (h : Rows (Value.int .i64) w A n Ps) (hc : n ≤ c) (hn : n * 24 ≤ 140737488351232) (hb : (∀ i, i < n → (nth Ps i).length * 8 ≤ 140737488351232) ∧ ∀ l ∈ Ps, ∀ x ∈ l, (Lit.int .i64 x).wf = true) (_ : (Lit.int .i64 a).wf = true) :
    Calls Try.prog 6 #[.slice A n c, .int .i64 a] w fun e w' => e = .returned (.bool true) ∧ Below w.heap.size w w' := law A n c Ps a w h hc hn hb.1
end Go.Proofs.Ytdlnglffimcopaa.SepBlanket
