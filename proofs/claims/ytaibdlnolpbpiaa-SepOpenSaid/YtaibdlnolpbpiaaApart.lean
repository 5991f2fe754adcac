/- sep.Apart, walked: whether some points tell nothing of others. Conditions: the parents and the points within Go's bound. -/
import Derived.Test.YtaibdlnolpbpiaaFlowAll
import Derived.Test.YtaibdlnolpbpiaaConcat
namespace Go.Proofs.Ytaibdlnolpbpiaa
open Go.RowKit

theorem ISet.zero {w : World} {C : Option Addr} {k : Nat} {l : List Int} (h : ISet w C k l) : ((k : Int) = 0) ↔ l = [] := by
  obtain ⟨xs, h1, _, h3⟩ := h
  have hl := h1.len
  constructor
  · intro hk
    have hx : xs = [] := List.eq_nil_of_length_eq_zero (by omega)
    subst hx
    cases l with
    | nil => rfl
    | cons y l => have := (h3 y).2 (by simp); simp at this
  · rintro rfl
    cases xs with
    | nil => simp at hl; omega
    | cons y xs => have := (h3 y).1 (by simp); simp at this
/-- the points told of, as the answer lists them -/
noncomputable def toldC (Ps : List (List Int)) (a given : List Int) : List Int := castL (toldL (toG Ps) given (a.map Int.toNat))
/-- do some points tell nothing of others? -/
noncomputable def apartB (Ps : List (List Int)) (a b given : List Int) : Bool := if lookE Ps given (a ++ b) = 0 then decide (∀ y, y ∈ b → y ∉ toldC Ps a given) else false
theorem apartB_filter {Ps : List (List Int)} {a b given : List Int} (h : lookE Ps given (a ++ b) = 0) : decide (((toldC Ps a given).filter fun x => b.contains x) = []) = apartB Ps a b given := by
  unfold apartB
  rw [if_pos h, Bool.eq_iff_iff, decide_eq_true_iff, decide_eq_true_iff, List.filter_eq_nil_iff]
  constructor
  · intro h1 y hy hy2; exact h1 y hy2 (by simpa using hy)
  · intro h1 y hy hy2; exact h1 y (by simpa using hy2) hy
theorem apartB_bad {Ps : List (List Int)} {a b given : List Int} (h : lookE Ps given (a ++ b) ≠ 0) : apartB Ps a b given = false := by unfold apartB; rw [if_neg h]
theorem lookE_left {Ps : List (List Int)} {a b given : List Int} (h : lookE Ps given (a ++ b) = 0) : lookE Ps given a = 0 := by
  obtain ⟨h1, h2, h3⟩ := lookE_inv h
  refine lookE_ok h1 h2 ?_
  rw [inRow_iff] at h3 ⊢
  exact fun p hp => h3 p (by simp [hp])
theorem toldC_length (Ps : List (List Int)) (a given : List Int) : (toldC Ps a given).length ≤ Ps.length := by
  unfold toldC castL toldL
  rw [List.length_map]
  have := ptsOf_length_le (toG Ps).length fun x => (∃ u, CameS (toG Ps) given (a.map Int.toNat) (x, u)) ∧ zB given x = false
  rw [toG_length] at this; rw [toG_length]; exact this
theorem rows_two {w : World} {B0 B1 : Option Addr} {m1 d1 m2 d2 : Nat} {a b : List Int} (ha : Sl (Value.int .i64) w B0 m1 a) (hb : Sl (Value.int .i64) w B1 m2 b) (h1 : m1 ≤ d1) (h2 : m2 ≤ d2) :
    Rows (Value.int .i64) (w.alloc (.cells #[.slice B0 m1 d1, .slice B1 m2 d2] 23)) (some ⟨w.heap.size, 0, none⟩) 2 [a, b] := by
  have hr : RowAt eS (w.alloc (.cells #[.slice B0 m1 d1, .slice B1 m2 d2] 23)) w.heap.size 23 [(B0, m1, d1), (B1, m2, d2)] [] := RowC.new w 23 [.slice B0 m1 d1, .slice B1 m2 d2]
  refine ⟨⟨[(B0, m1, d1), (B1, m2, d2)], hr.sl (by simp), fun i hi => ?_⟩, rfl⟩
  rcases (show i = 0 ∨ i = 1 by omega) with rfl | rfl
  · exact ⟨ha.alloc _, h1⟩
  · exact ⟨hb.alloc _, h2⟩
def ApartPost (w : World) (Ps : List (List Int)) (a b given : List Int) (e : Ending) (w' : World) : Prop :=
  e = .returned (.tuple #[.bool (apartB Ps a b given), .int .i64 (lookE Ps given (a ++ b))]) ∧ Below w.heap.size w w'

set_option maxRecDepth 100000 in
set_option maxHeartbeats 800000 in
theorem apart_any (A B0 B1 C0 : Option Addr) (n c m1 d1 m2 d2 m3 d3 : Nat) (Ps : List (List Int)) (a b given : List Int) (w : World) (h : Rows (Value.int .i64) w A n Ps) (ha : Sl (Value.int .i64) w B0 m1 a) (hb : Sl (Value.int .i64) w B1 m2 b) (hg : Sl (Value.int .i64) w C0 m3 given)
    (h1 : m1 ≤ d1) (h2 : m2 ≤ d2) (hn : n * 64 ≤ 140737488351232) (hm3 : m3 * 8 ≤ 140737488355328) (hm12 : (m1 + m2) * 8 ≤ 140737488355328) (hnm : (n + m2) * 8 ≤ 140737488355328) :
    Calls Try.prog 22 #[.slice A n c, .slice B0 m1 d1, .slice B1 m2 d2, .slice C0 m3 d3] w (ApartPost w Ps a b given) := by
  obtain ⟨wa, hwa⟩ : ∃ wa : World, wa = w := ⟨_, rfl⟩
  subst hwa
  have hrows := rows_two ha hb h1 h2
  have HL := Lib.hid (And.intro h.len (And.intro hm12 (And.intro ha.len hb.len)))
  have H0 := (((Held.start (P := fun w => Rows (Value.int .i64) w A n Ps) wa h).sl ha).sl hb).sl hg
  have H1 := H0.alloc (.cells #[.slice B0 m1 d1, .slice B1 m2 d2] 23)
  have HH := Lib.hid H1
  clear H0 H1 h ha hb hg hm12
  go_enter Try.func22, Try.ntmps22
  go_wp2_with fail
  refine (concat_any _ 2 2 [a, b] _ hrows (by have := HL.out.2.1; have := HL.out.2.2.1; have := HL.out.2.2.2; simp; omega)).mono ?_
  rintro e w1 ⟨X, k, d, rfl, hX, hb1⟩
  have H1 := HH.out.step hb1
  have hXl := hX.length
  have hXs := hX.sl (by have := HL.out.2.1; have := HL.out.2.2.1; have := HL.out.2.2.2; simp at hXl; omega)
  rw [show [a, b].flatten = a ++ b by simp] at hXs
  have h1r := H1.has.2.2.2
  have h1g := H1.has.1
  have HH1 := Lib.hid H1
  clear H1 hX hXl hrows hb1
  go_wp2_with fail
  refine (look_any A C0 X n c m3 d3 k d Ps given (a ++ b) _ h1r h1g hXs (by omega) hm3).mono ?_
  rintro e w2 ⟨hb2, A1, na, ca, Y1, nb, cb, Z1, k1, c1, D1, k2, c2, rfl, _⟩
  have H2 := HH1.out.step hb2
  clear h1r h1g hXs hb2
  by_cases hE : lookE Ps given (a ++ b) = 0
  · have HE := Lib.hid hE
    rw [hE]
    have H3 := H2.alloc (.cells #[.slice A1 na ca, .slice Y1 nb cb, .slice Z1 k1 c1, .slice D1 k2 c2] 57)
    have h3r := H3.has.2.2.2
    have h3a := H3.has.2.2.1
    have h3g := H3.has.1
    have HH3 := Lib.hid H3
    clear H2 H3 hE
    go_wp2_with fail
    refine (tells_any A B0 C0 n c m1 d1 m3 d3 Ps a given _ h3r h3a h3g hn hm3).mono ?_
    rintro e w4 ⟨hb4, C, q, dq, rfl, _, hT⟩
    have hT := hT (lookE_left HE.out)
    have hql := hT.length
    have hqn : q ≤ n := by have := toldC_length Ps a given; unfold toldC at this; have := HL.out.1; omega
    have hTs := hT.sl (by omega)
    have H4 := HH3.out.step hb4
    have HH4 := Lib.hid H4
    rw [lookE_left HE.out]
    clear H4 hb4 h3r h3a h3g hT hql
    go_wp2_with fail
    refine (of_I C q dq _ _ hTs (by omega)).mono ?_
    rintro e w5 ⟨F, kf, cf, rfl, hF, hkf, hb5⟩
    have H5 := HH4.out.step hb5
    have h5b := H5.has.2.1
    have HH5 := Lib.hid (And.intro H5 hF)
    clear H5 hb5 hTs hF
    go_wp2_with fail
    refine (of_I B1 m2 d2 b _ h5b (by omega)).mono ?_
    rintro e w6 ⟨F2, kf2, cf2, rfl, hF2, hkf2, hb6⟩
    have H6 := HH5.out.1.step hb6
    have hF6 := HH5.out.2.1.below (Nat.le_refl _) hb6
    have HH6 := Lib.hid H6
    clear H6 hb6 h5b
    go_wp2_with fail
    refine (meet_I F F2 kf kf2 cf cf2 _ _ _ hF6 hF2.1 (by omega)).mono ?_
    rintro e w7 ⟨F3, k3, d3', rfl, hF3, hb7⟩
    have hz := hF3.zero
    have hd : decide ((k3 : Int) = 0) = apartB Ps a b given := by
      rw [← apartB_filter HE.out]
      rw [Bool.eq_iff_iff, decide_eq_true_iff, decide_eq_true_iff]
      exact hz
    have H7 := HH6.out.step hb7
    have HH7 := Lib.hid (And.intro H7 hd)
    clear H7 hb7 hz hd hF3 hF6 hF2
    go_wp2_with fail
    refine (len_I F3 k3 d3' _).mono ?_
    rintro e w8 ⟨rfl, hb8⟩
    have H8 := Lib.hid ((HH7.out.1.step hb8).bel)
    clear hb8
    go_wp2_with fail
    go_ret2
    refine ⟨?_, H8.out⟩
    rw [HE.out, ← HH7.out.2]
    rfl
  · have HE := Lib.hid hE
    have hf := apartB_bad hE
    have H3 := H2.alloc (.cells #[.slice A1 na ca, .slice Y1 nb cb, .slice Z1 k1 c1, .slice D1 k2 c2] 57)
    have HB := Lib.hid (And.intro H3.bel hf)
    clear H2 H3 hf
    go_wp2_with fail
    go_ret2
    exact ⟨by rw [HB.out.2]; rfl, HB.out.1⟩
end Go.Proofs.Ytaibdlnolpbpiaa
