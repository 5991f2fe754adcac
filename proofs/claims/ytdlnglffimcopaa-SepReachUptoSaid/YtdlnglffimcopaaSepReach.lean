/- credencelaw16.SepReach, walked: it returns true. Conditions: the lists read, within Go's bound together. -/
import Derived.Test.YtdlnglffimcopaaRefReach
import Derived.Test.YtdlnglffimcopaaLawS3
namespace Go.Proofs.Ytdlnglffimcopaa.SepReach
open Go.RowKit

open Classical in
noncomputable def toldW (Ps : List (List Int)) (a given : List Int) : List Int := if lookE Ps given a = 0 then castL (toldL (toG Ps) given (a.map Int.toNat)) else []
theorem prog (A B C : Option Addr) (n c m d k e0 : Nat) (Ps : List (List Int)) (a given : List Int) (w : World) (h : Rows (Value.int .i64) w A n Ps) (ha : Sl (Value.int .i64) w B m a) (hg : Sl (Value.int .i64) w C k given) (hn : n * 64 ≤ 140737488351232) (hk : k * 8 ≤ 140737488355328) :
    Calls Try.prog 18 #[.slice A n c, .slice B m d, .slice C k e0] w fun e w' => ∃ X q r, e = .returned (.tuple #[.slice X q r, .int .i64 (lookE Ps given a)]) ∧ OwnR (Value.int .i64) w' w.heap.size 3 X q r (toldW Ps a given) ∧ Below w.heap.size w w' := by
  refine (tells_any A B C n c m d k e0 Ps a given w h ha hg hn hk).mono ?_
  rintro e w' ⟨hb, X, q, r, rfl, h1, h2⟩
  refine ⟨X, q, r, rfl, ?_, hb⟩
  unfold toldW
  by_cases hE : lookE Ps given a = 0
  · rw [if_pos hE]; exact (h2 hE).mono (Nat.le_succ _)
  · obtain ⟨rfl, rfl, rfl⟩ := h1 hE
    rw [if_neg hE]; exact OwnR.nil _ _ _ _
theorem ref (A B C : Option Addr) (n c m d k e0 : Nat) (Ps : List (List Int)) (a given : List Int) (w : World) (h : Rows (Value.int .i64) w A n Ps) (ha : Sl (Value.int .i64) w B m a) (hg : Sl (Value.int .i64) w C k given) (hn : n * 24 ≤ 140737488351232) (hk : (m + k) * 8 ≤ 140737488355328) :
    Calls Try.prog 17 #[.slice A n c, .slice B m d, .slice C k e0] w fun e w' => ∃ X q r, e = .returned (.tuple #[.slice X q r, .int .i64 (lookE Ps given a)]) ∧ Sl (Value.int .i64) w' X q (toldW Ps a given) ∧ Below w.heap.size w w' := by
  refine (rreach_ref A B C n c m d k e0 Ps a given w h ha hg hn hk).mono ?_
  rintro e w' ⟨hb, X, q, r, rfl, h1, h2⟩
  refine ⟨X, q, r, rfl, ?_, hb⟩
  unfold toldW
  by_cases hE : lookE Ps given a = 0
  · rw [if_pos hE]; exact h2 hE
  · obtain ⟨rfl, rfl, rfl⟩ := h1 hE
    rw [if_neg hE]; exact Sl.nil _ _ _
theorem toldW_length (Ps : List (List Int)) (a given : List Int) : (toldW Ps a given).length ≤ Ps.length := by
  unfold toldW
  split
  · unfold castL toldL; rw [List.length_map]
    have := ptsOf_length_le (toG Ps).length fun x => (∃ u, CameS (toG Ps) given (a.map Int.toNat) (x, u)) ∧ zB given x = false
    rw [toG_length] at this; rw [toG_length]; exact this
  · simp

set_option maxRecDepth 100000 in
set_option maxHeartbeats 1600000 in
theorem law1 (A B0 C0 : Option Addr) (n m c ma da mg dg : Nat) (Ps : List (List Int)) (a given : List Int) (w : World) (h : Rows (Value.int .i64) w A m Ps) (ha : Sl (Value.int .i64) w B0 ma a) (hg : Sl (Value.int .i64) w C0 mg given) (hnm : (min ((n : Nat) : Int) 7).toNat = m) (hmc : m ≤ c) (hn : n * 24 ≤ 140737488351232)
    (hb : ∀ i, i < m → (nth Ps i).length * 8 ≤ 140737488351232) (hma : ma * 8 ≤ 140737488351232) (hmg : mg * 8 ≤ 140737488351232) (hsum : (ma + mg) * 8 ≤ 140737488355328) :
    Calls Try.prog 3 #[.slice A n c, .slice B0 ma da, .slice C0 mg dg] w fun e w' => e = .returned (.bool true) ∧ Below w.heap.size w w' := by
  have hm7 : m ≤ 7 := by omega
  have HL := Lib.hid (And.intro h.len (And.intro hb (And.intro ha.len hg.len))); clear hb
  have H0 := (((Held.init w).and (Q := fun w => Rows (Value.int .i64) w A m Ps) h).sl ha).sl hg
  obtain ⟨wa, hwa⟩ : ∃ wa : World, wa = w := ⟨_, rfl⟩
  subst hwa
  clear h ha hg
  go_enter Try.func3, Try.ntmps3
  have q1 : min ((n : Nat) : Int) 7 ≤ c := by omega
  have q2 : 0 ≤ min ((n : Nat) : Int) 7 := by omega
  have HM := Lib.hid hnm; clear hnm
  go_wp2_with fail
  rw [HM.out]
  refine (twin_any A m c Ps _ H0.has.2.2.1 (by omega) HL.out.2.1).mono ?_
  rintro e w1 ⟨B, d, vs, rfl, ht, hb⟩
  have H1 := (H0.step hb).and (Q := fun w => Twin w wa.heap.size B m d Ps vs) ht
  clear H0 hb ht
  go_wp2_with fail
  refine (roomy_any B0 ma da a _ H1.has.2.2.1 hma).mono ?_
  rintro e w2 ⟨S, cs, rfl, hS, hb⟩
  have H2 := (H1.step hb).and (Q := fun w => OwnR (Value.int .i64) w w1.heap.size 3 S (ma + 4) cs (a ++ m4)) hS
  clear H1 hb hS
  go_wp2_with fail
  refine (roomy_any C0 mg dg given _ H2.has.2.2.1 hmg).mono ?_
  rintro e w3 ⟨T, ct, rfl, hT, hb⟩
  have H3 := (H2.step hb).and (Q := fun w => OwnR (Value.int .i64) w w2.heap.size 3 T (mg + 4) ct (given ++ m4)) hT
  clear H2 hb hT
  go_wp2_with fail
  refine (ref A B0 C0 m c ma da mg dg Ps a given _ H3.has.2.2.2.2.2.1 H3.has.2.2.2.2.1 H3.has.2.2.2.1 (by omega) hsum).mono ?_
  rintro e w4 ⟨P, kP, dP, rfl, hP, hb⟩
  have H4 := (H3.step hb).sl hP
  clear H3 hb hP
  have hrows := H4.has.2.2.2.1.rows HL.out.1 (by omega) (fun i hi => by have := HL.out.2.1 i hi; omega)
  have hsa := OwnR.pre' H4.has.2.2.1 HL.out.2.2.1 (by omega)
  have hsg := OwnR.pre' H4.has.2.1 HL.out.2.2.2 (by omega)
  go_wp2_with fail
  refine (prog B S T m d ma cs mg ct Ps a given _ hrows hsa hsg (by omega) (by omega)).mono ?_
  rintro e w5 ⟨X, kX, dX, rfl, hX, hb⟩
  have H5 := (H4.step hb).and (Q := fun w => OwnR (Value.int .i64) w w4.heap.size 3 X kX dX (toldW Ps a given)) hX
  have hb45 := Lib.hid hb
  clear hb hX hrows hsa hsg
  have hrows := H5.has.2.2.2.2.1.rows HL.out.1 (by omega) (fun i hi => by have := HL.out.2.1 i hi; omega)
  have hsa := OwnR.pre' H5.has.2.2.2.1 HL.out.2.2.1 (by omega)
  have hsg := OwnR.pre' H5.has.2.2.1 HL.out.2.2.2 (by omega)
  go_wp2_with fail
  refine (prog B S T m d ma cs mg ct Ps a given _ hrows hsa hsg (by omega) (by omega)).mono ?_
  rintro e w6 ⟨Y, kY, dY, rfl, hY, hb⟩
  have H6 := (H5.step hb).and (Q := fun w => OwnR (Value.int .i64) w w5.heap.size 3 Y kY dY (toldW Ps a given)) hY
  have hb56 := Lib.hid hb
  clear hb hY hrows hsa hsg
  have hlX := H6.has.2.1.length
  have hlY := H6.has.1.length
  have hlP := H6.has.2.2.1.len
  obtain rfl : kX = kP := by omega
  obtain rfl : kY = kX := by omega
  have hk7 : kY ≤ 7 := by have := toldW_length Ps a given; rw [HL.out.1] at this; omega
  have hXr := H5.has.1.at_row
  have hYr := H6.has.1.fr
  have hPl := H4.has.1
  have hyx : ∀ b off, 0 < kY → Y = some ⟨b, off, none⟩ → X ≠ some ⟨b, 0, none⟩ := fun b off _ e e2 => by
    have h1 := hYr b off e
    rcases hXr with h2 | ⟨g, h2, _, h3⟩
    · rw [e2] at h2; cases h2
    · rw [e2] at h2; injection h2 with h2; injection h2 with h2; omega
  have hpx : ∀ b off, 0 < kY → P = some ⟨b, off, none⟩ → X ≠ some ⟨b, 0, none⟩ := fun b off hp e e2 => by
    obtain ⟨b', off', e', hlt, _⟩ := hPl.at' hp
    rw [e] at e'; injection e' with e'; injection e' with e' _ _
    have h1 := H5.has.1.fr b 0 e2
    omega
  have HF := Lib.hid (And.intro hyx (And.intro hpx (And.intro H4 H6))); clear hyx hpx hXr hYr hPl H4 H5 hlX hlY hlP
  go_wp2_with fail
  refine (own_any w4.heap.size X Y P kY dX dY dP (toldW Ps a given) _ H6.has.2.1 (H6.has.1.sl (by omega)) H6.has.2.2.1 HF.out.1 HF.out.2.1 (by omega) (by have := hb45.out.size; have := hb56.out.size; omega)).mono ?_
  rintro e w7 ⟨rfl, hb7⟩
  have hb47 : Below w4.heap.size w4 w7 := (hb45.out.trans (hb56.out.mono hb45.out.size)).trans hb7
  have H7 := HF.out.2.2.1.step hb47
  clear H6 hb7 hb47
  go_wp2_with fail
  refine (kept_any wa.heap.size B A m d c Ps vs _ H7.has.2.2.2.1 H7.has.2.2.2.2.2.2.1 (by omega) HL.out.2.1).mono ?_
  rintro e w8 ⟨rfl, t, rfl⟩
  have H8 := H7.drewN t
  have HK := Lib.hid H7
  clear H7
  go_wp2_with fail
  refine (still_any S B0 ma cs da a _ (H8.has.2.2.1.sl (by omega)) H8.has.2.2.2.2.2.1 H8.has.2.2.1.cap).mono ?_
  rintro e w9 ⟨rfl, t9, rfl⟩
  have H9 := HK.out.drewN (t + t9)
  clear H8
  go_wp2_with fail
  refine (still_any T C0 mg ct dg given _ (H9.has.2.1.sl (by omega)) H9.has.2.2.2.2.1 H9.has.2.1.cap).mono ?_
  rintro e w10 ⟨rfl, t10, rfl⟩
  clear H9
  go_wp2_with fail
  go_ret
  exact ⟨rfl, (HK.out.drewN _).bel⟩
theorem law (A B0 C0 : Option Addr) (n c ma da mg dg : Nat) (Ps : List (List Int)) (a given : List Int) (w : World) (h : Rows (Value.int .i64) w A n Ps) (ha : Sl (Value.int .i64) w B0 ma a) (hg : Sl (Value.int .i64) w C0 mg given) (hc : n ≤ c) (hn : n * 24 ≤ 140737488351232)
    (hb : ∀ i, i < n → (nth Ps i).length * 8 ≤ 140737488351232) (hma : ma * 8 ≤ 140737488351232) (hmg : mg * 8 ≤ 140737488351232) (hsum : (ma + mg) * 8 ≤ 140737488355328) :
    Calls Try.prog 3 #[.slice A n c, .slice B0 ma da, .slice C0 mg dg] w fun e w' => e = .returned (.bool true) ∧ Below w.heap.size w w' :=
  law1 A B0 C0 n (min ((n : Nat) : Int) 7).toNat c ma da mg dg (Ps.take (min ((n : Nat) : Int) 7).toNat) a given w (h.take (by omega)) ha hg rfl (by omega) hn (fun i hi => by rw [nth_take hi]; exact hb i (by omega)) hma hmg hsum
theorem lawB (A : Option Addr) (n c : Nat) (Ps : List (List Int)) (B0 : Option Addr) (ma da : Nat) (a : List Int) (C0 : Option Addr) (mg dg : Nat) (given : List Int) (w : World) (h : Rows (Value.int .i64) w A n Ps) (hc : n ≤ c) (hn : n * 24 ≤ 140737488351232)
    (hb : (∀ i, i < n → (nth Ps i).length * 8 ≤ 140737488351232) ∧ ∀ l ∈ Ps, ∀ x ∈ l, (Lit.int .i64 x).wf = true) (ha : Sl (Value.int .i64) w B0 ma a) (_ : ∀ x ∈ a, (Lit.int .i64 x).wf = true) (hg : Sl (Value.int .i64) w C0 mg given) (_ : ∀ x ∈ given, (Lit.int .i64 x).wf = true) (_ : n ≤ 1048576) (hma : ma ≤ 1048576) (hmg : mg ≤ 1048576) :
    Calls Try.prog 3 #[.slice A n c, .slice B0 ma da, .slice C0 mg dg] w fun e w' => e = .returned (.bool true) ∧ Below w.heap.size w w' :=
  law A B0 C0 n c ma da mg dg Ps a given w h ha hg hc hn hb.1 (by omega) (by omega) (by omega)
end Go.Proofs.Ytdlnglffimcopaa.SepReach
