/- credencelaw16.SepTrail, walked: it returns true. Conditions: the lists read, within Go's bound. -/
import Derived.Test.YtdlnglffimcopaaTrail
import Derived.Test.YtdlnglffimcopaaLawS3
namespace Go.Proofs.Ytdlnglffimcopaa.SepTrail
open Go.RowKit

theorem trailW_length (Ps : List (List Int)) (a b : Int) (given : List Int) : (trailW Ps a b given).length ≤ Ps.length := by
  unfold trailW
  split
  · rename_i hE
    obtain ⟨⟨h1, h2⟩, _⟩ := look_two hE
    unfold castL
    rw [List.length_map]
    cases ho : bestO (toG Ps) given a.toNat b.toNat with
    | none => simp
    | some t =>
      have hx : ∃ o, BestT (toG Ps) (Zp given) (Ap (toG Ps) given) a.toNat b.toNat o := by
        apply Classical.byContradiction
        intro hx
        unfold bestO at ho
        rw [dif_neg hx] at ho
        cases ho
      obtain ⟨o, hb⟩ := hx
      have he := bestO_eq hb
      rw [ho] at he
      subst he
      obtain ⟨_, _, ⟨l, h3, h4⟩, _⟩ := hb.bs t rfl
      have := h3.length_le (by rw [toG_length]; omega)
      rw [toG_length] at this
      show t.length ≤ _
      rw [h4, List.length_reverse]
      exact this
  · simp

set_option maxRecDepth 100000 in
set_option maxHeartbeats 1600000 in
theorem law1 (A C0 : Option Addr) (n m c mg dg : Nat) (a b : Int) (Ps : List (List Int)) (given : List Int) (w : World) (h : Rows (Value.int .i64) w A m Ps) (hg : Sl (Value.int .i64) w C0 mg given) (hnm : (min ((n : Nat) : Int) 7).toNat = m) (hmc : m ≤ c) (hn : n * 24 ≤ 140737488351232)
    (hb : ∀ i, i < m → (nth Ps i).length * 8 ≤ 140737488351232) (hmg : mg * 8 ≤ 140737488351232) :
    Calls Try.prog 4 #[.slice A n c, .int .i64 a, .int .i64 b, .slice C0 mg dg] w fun e w' => e = .returned (.bool true) ∧ Below w.heap.size w w' := by
  have hm7 : m ≤ 7 := by omega
  have HL := Lib.hid (And.intro h.len (And.intro hb hg.len)); clear hb
  have H0 := ((Held.init w).and (Q := fun w => Rows (Value.int .i64) w A m Ps) h).sl hg
  obtain ⟨wa, hwa⟩ : ∃ wa : World, wa = w := ⟨_, rfl⟩
  subst hwa
  clear h hg
  go_enter Try.func4, Try.ntmps4
  have q1 : min ((n : Nat) : Int) 7 ≤ c := by omega
  have q2 : 0 ≤ min ((n : Nat) : Int) 7 := by omega
  have HM := Lib.hid hnm; clear hnm
  go_wp2_with fail
  rw [HM.out]
  refine (twin_any A m c Ps _ H0.has.2.1 (by omega) HL.out.2.1).mono ?_
  rintro e w1 ⟨B, d, vs, rfl, ht, hb⟩
  have H1 := (H0.step hb).and (Q := fun w => Twin w wa.heap.size B m d Ps vs) ht
  clear H0 hb ht
  go_wp2_with fail
  refine (roomy_any C0 mg dg given _ H1.has.2.1 hmg).mono ?_
  rintro e w3 ⟨T, ct, rfl, hT, hb⟩
  have H3 := (H1.step hb).and (Q := fun w => OwnR (Value.int .i64) w w1.heap.size 3 T (mg + 4) ct (given ++ m4)) hT
  clear H1 hb hT
  go_wp2_with fail
  refine (trail_ref A C0 m c mg dg Ps a b given _ H3.has.2.2.2.1 H3.has.2.2.1 (by omega) (by omega)).mono ?_
  rintro e w4 ⟨P, kP, dP, rfl, hP, hb⟩
  have H4 := (H3.step hb).sl hP
  clear H3 hb hP
  have hrows := H4.has.2.2.1.rows HL.out.1 (by omega) (fun i hi => by have := HL.out.2.1 i hi; omega)
  have hsg := OwnR.pre' H4.has.2.1 HL.out.2.2 (by omega)
  go_wp2_with fail
  refine (trail_any B T m d mg ct Ps a b given _ hrows hsg (by omega) (by omega)).mono ?_
  rintro e w5 ⟨X, kX, dX, rfl, hX, hb⟩
  have H5 := (H4.step hb).and (Q := fun w => OwnR (Value.int .i64) w w4.heap.size 3 X kX dX (trailW Ps a b given)) hX
  have hb45 := Lib.hid hb
  clear hb hX hrows hsg
  have hrows := H5.has.2.2.2.1.rows HL.out.1 (by omega) (fun i hi => by have := HL.out.2.1 i hi; omega)
  have hsg := OwnR.pre' H5.has.2.2.1 HL.out.2.2 (by omega)
  go_wp2_with fail
  refine (trail_any B T m d mg ct Ps a b given _ hrows hsg (by omega) (by omega)).mono ?_
  rintro e w6 ⟨Y, kY, dY, rfl, hY, hb⟩
  have H6 := (H5.step hb).and (Q := fun w => OwnR (Value.int .i64) w w5.heap.size 3 Y kY dY (trailW Ps a b given)) hY
  have hb56 := Lib.hid hb
  clear hb hY hrows hsg
  have hlX := H6.has.2.1.length
  have hlY := H6.has.1.length
  have hlP := H6.has.2.2.1.len
  obtain rfl : kX = kP := by omega
  obtain rfl : kY = kX := by omega
  have hk7 : kY ≤ 7 := by have := trailW_length Ps a b given; rw [HL.out.1] at this; omega
  have hXr := H5.has.1.at_row
  have hYr := H6.has.1.fr
  have hPl := H4.has.1
  have hyx : ∀ b off, 0 < kY → Y = some ⟨b, off, none⟩ → X ≠ some ⟨b, 0, none⟩ := fun b off _ e e2 => by
    have h1 := hYr b off e
    rcases hXr with h2 | ⟨g, h2, _, h3⟩
    · rw [e2] at h2; cases h2
    · rw [e2] at h2; injection h2 with h2; injection h2 with h2; omega
  have hpx : ∀ b off, 0 < kY → P = some ⟨b, off, none⟩ → X ≠ some ⟨b, 0, none⟩ := fun b off hp e e2 => by
    obtain ⟨b', off', e', hlt, _⟩ := hPl.at' hp
    rw [e] at e'; injection e' with e'; injection e' with e' _ _
    have h1 := H5.has.1.fr b 0 e2
    omega
  have HF := Lib.hid (And.intro hyx (And.intro hpx (And.intro H4 H6))); clear hyx hpx hXr hYr hPl H4 H5 hlX hlY hlP
  go_wp2_with fail
  refine (own_any w4.heap.size X Y P kY dX dY dP (trailW Ps a b given) _ H6.has.2.1 (H6.has.1.sl (by omega)) H6.has.2.2.1 HF.out.1 HF.out.2.1 (by omega) (by have := hb45.out.size; have := hb56.out.size; omega)).mono ?_
  rintro e w7 ⟨rfl, hb7⟩
  have hb47 : Below w4.heap.size w4 w7 := (hb45.out.trans (hb56.out.mono hb45.out.size)).trans hb7
  have H7 := HF.out.2.2.1.step hb47
  clear H6 hb7 hb47
  go_wp2_with fail
  refine (kept_any wa.heap.size B A m d c Ps vs _ H7.has.2.2.1 H7.has.2.2.2.2.1 (by omega) HL.out.2.1).mono ?_
  rintro e w8 ⟨rfl, t, rfl⟩
  have HK := Lib.hid H7
  have H8 := H7.drewN t
  clear H7
  go_wp2_with fail
  refine (still_any T C0 mg ct dg given _ (H8.has.2.1.sl (by omega)) H8.has.2.2.2.1 H8.has.2.1.cap).mono ?_
  rintro e w10 ⟨rfl, t10, rfl⟩
  clear H8
  go_wp2_with fail
  go_ret
  exact ⟨rfl, (HK.out.drewN _).bel⟩
theorem law (A C0 : Option Addr) (n c mg dg : Nat) (a b : Int) (Ps : List (List Int)) (given : List Int) (w : World) (h : Rows (Value.int .i64) w A n Ps) (hg : Sl (Value.int .i64) w C0 mg given) (hc : n ≤ c) (hn : n * 24 ≤ 140737488351232)
    (hb : ∀ i, i < n → (nth Ps i).length * 8 ≤ 140737488351232) (hmg : mg * 8 ≤ 140737488351232) :
    Calls Try.prog 4 #[.slice A n c, .int .i64 a, .int .i64 b, .slice C0 mg dg] w fun e w' => e = .returned (.bool true) ∧ Below w.heap.size w w' :=
  law1 A C0 n (min ((n : Nat) : Int) 7).toNat c mg dg a b (Ps.take (min ((n : Nat) : Int) 7).toNat) given w (h.take (by omega)) hg rfl (by omega) hn (fun i hi => by rw [nth_take hi]; exact hb i (by omega)) hmg
theorem lawB (A : Option Addr) (n c : Nat) (Ps : List (List Int)) (a b : Int) (C0 : Option Addr) (mg dg : Nat) (given : List Int) (w : World) (h : Rows (Value.int .i64) w A n Ps) (hc : n ≤ c) (hn : n * 24 ≤ 140737488351232)
    (hb : (∀ i, i < n → (nth Ps i).length * 8 ≤ 140737488351232) ∧ ∀ l ∈ Ps, ∀ x ∈ l, (Lit.int .i64 x).wf = true) (_ : (Lit.int .i64 a).wf = true) (_ : (Lit.int .i64 b).wf = true) (hg : Sl (Value.int .i64) w C0 mg given) (_ : ∀ x ∈ given, (Lit.int .i64 x).wf = true) (hmg : mg * 8 ≤ 140737488351232) :
    Calls Try.prog 4 #[.slice A n c, .int .i64 a, .int .i64 b, .slice C0 mg dg] w fun e w' => e = .returned (.bool true) ∧ Below w.heap.size w w' :=
  law A C0 n c mg dg a b Ps given w h hg hc hn hb.1 hmg
end Go.Proofs.Ytdlnglffimcopaa.SepTrail
