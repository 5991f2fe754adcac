/- A bag of sets of ints that stand in the world, each known by what is in it; Join, Meet, Minus, Same, Within, Len on it. Conditions: the sets are small. -/
import Derived.Test.YtpacnpiiahchiaaSet5I
import Derived.Test.YtpacnpiiahchiaaLaw0
namespace Go.Proofs.Ytpacnpiiahchiaa
open Go.RowKit

/-- v is a set, and what is in it -/
def IsSet (w : World) (v : Value) (P : Int → Bool) (k : Nat) : Prop :=
  ∃ A n c xs, v = .agg #[.slice A n c] ∧ Sl (Value.int .i64) w A n xs ∧ Asc cmpI xs ∧ (∀ z, z ∈ xs ↔ P z = true) ∧ xs.length ≤ k
theorem IsSet.below {w w' : World} {v : Value} {P : Int → Bool} {k : Nat} (h : IsSet w v P k) (hb : Below w.heap.size w w') : IsSet w' v P k := by
  obtain ⟨A, n, c, xs, h1, h2, h3⟩ := h
  exact ⟨A, n, c, xs, h1, h2.below (Nat.le_refl _) hb, h3⟩
theorem IsSet.drewN {w : World} {v : Value} {P : Int → Bool} {k : Nat} (h : IsSet w v P k) (m : Nat) : IsSet (w.drewN m) v P k := by
  obtain ⟨A, n, c, xs, h1, h2, h3⟩ := h
  exact ⟨A, n, c, xs, h1, h2.drewN m, h3⟩

/-- sets that stand, and all that was there -/
structure Bag (w0 w : World) (l : List (Value × (Int → Bool) × Nat)) : Prop where
  bel : Below w0.heap.size w0 w
  all : ∀ v P k, (v, P, k) ∈ l → IsSet w v P k
theorem Bag.below {w0 w w' : World} {l : List (Value × (Int → Bool) × Nat)} (h : Bag w0 w l) (hb : Below w.heap.size w w') : Bag w0 w' l :=
  ⟨h.bel.trans (hb.mono h.bel.size), fun v P k hm => (h.all v P k hm).below hb⟩
theorem Bag.drewN {w0 w : World} {l : List (Value × (Int → Bool) × Nat)} (h : Bag w0 w l) (m : Nat) : Bag w0 (w.drewN m) l :=
  ⟨below_drewN h.bel m, fun v P k hm => (h.all v P k hm).drewN m⟩
theorem Bag.add {w0 w : World} {l : List (Value × (Int → Bool) × Nat)} (h : Bag w0 w l) {v : Value} {P : Int → Bool} {k : Nat} (hv : IsSet w v P k) : Bag w0 w ((v, P, k) :: l) :=
  ⟨h.bel, fun v' P' k' hm => by
    rcases List.mem_cons.1 hm with e | hm
    · cases e; exact hv
    · exact h.all v' P' k' hm⟩
theorem Bag.alloc {w0 w : World} {l : List (Value × (Int → Bool) × Nat)} (h : Bag w0 w l) (o : Obj) : Bag w0 (w.alloc o) l :=
  h.below ((Below.refl _ _).alloc (Nat.le_refl _) o)
/-- forget all but some -/
theorem Bag.sub {w0 w : World} {l l' : List (Value × (Int → Bool) × Nat)} (h : Bag w0 w l) (hs : ∀ p, p ∈ l' → p ∈ l) : Bag w0 w l' :=
  ⟨h.bel, fun v P k hm => h.all v P k (hs _ hm)⟩

theorem isIn_int (z : Int) (l : List Int) : isIn cmpI z l = decide (z ∈ l) := by
  rw [Bool.eq_iff_iff, isIn_iff, decide_eq_true_iff]
  constructor
  · rintro ⟨y, hy, h⟩
    rw [cmpI_zero] at h
    rw [← h]; exact hy
  · intro h
    exact ⟨z, h, cmpokI.self z⟩
theorem chosen_int {l b r : Bool} {s o out : List Int} {P Q : Int → Bool} (h : Chosen cmpI l b r s o out) (hs : ∀ z, z ∈ s ↔ P z = true) (ho : ∀ z, z ∈ o ↔ Q z = true) (z : Int) :
    z ∈ out ↔ ((P z && (if Q z then b else l)) || (Q z && !P z && r)) = true := by
  rw [h.mem, hs, ho]
  unfold want
  rw [isIn_int, isIn_int]
  have e1 : decide (z ∈ o) = Q z := by rw [Bool.eq_iff_iff, decide_eq_true_iff]; exact ho z
  have e2 : decide (z ∈ s) = P z := by rw [Bool.eq_iff_iff, decide_eq_true_iff]; exact hs z
  rw [e1, e2]
  cases P z <;> cases Q z <;> simp

section
variable {w0 w : World} {l : List (Value × (Int → Bool) × Nat)} {v1 v2 : Value} {P Q : Int → Bool} {k m : Nat}
theorem join_bag (HB : Bag w0 w l) (h1 : (v1, P, k) ∈ l) (h2 : (v2, Q, m) ∈ l) (hb : k + m ≤ 1000000) :
    Calls Try.prog 16 #[v1, v2] w fun e w' => ∃ v, e = .returned v ∧ Bag w0 w' ((v, (fun z => P z || Q z), k + m) :: l) ∧ Below w.heap.size w w' := by
  obtain ⟨A, n, c, xs, rfl, s1, a1, m1, l1⟩ := HB.all _ _ _ h1
  obtain ⟨A', n', c', ys, rfl, s2, a2, m2, l2⟩ := HB.all _ _ _ h2
  refine (SoI.join_any A A' n n' c c' xs ys w s1 s2 a1 a2 (by have := s1.len; have := s2.len; omega)).mono ?_
  rintro e w' ⟨Ao, ko, co, out, rfl, hch, hsl, hbl⟩
  refine ⟨_, rfl, (HB.below hbl).add ⟨Ao, ko, co, out, rfl, hsl, hch.asc, fun z => ?_, ?_⟩, hbl⟩
  · rw [chosen_int hch m1 m2]; rcases hP : P z <;> rcases hQ : Q z <;> simp [hP, hQ]
  · have := hch.len; omega
theorem meet_bag (HB : Bag w0 w l) (h1 : (v1, P, k) ∈ l) (h2 : (v2, Q, m) ∈ l) (hb : k + m ≤ 1000000) :
    Calls Try.prog 18 #[v1, v2] w fun e w' => ∃ v, e = .returned v ∧ Bag w0 w' ((v, (fun z => P z && Q z), k + m) :: l) ∧ Below w.heap.size w w' := by
  obtain ⟨A, n, c, xs, rfl, s1, a1, m1, l1⟩ := HB.all _ _ _ h1
  obtain ⟨A', n', c', ys, rfl, s2, a2, m2, l2⟩ := HB.all _ _ _ h2
  refine (SoI.meet_any A A' n n' c c' xs ys w s1 s2 a1 a2 (by have := s1.len; have := s2.len; omega)).mono ?_
  rintro e w' ⟨Ao, ko, co, out, rfl, hch, hsl, hbl⟩
  refine ⟨_, rfl, (HB.below hbl).add ⟨Ao, ko, co, out, rfl, hsl, hch.asc, fun z => ?_, ?_⟩, hbl⟩
  · rw [chosen_int hch m1 m2]; rcases hP : P z <;> rcases hQ : Q z <;> simp [hP, hQ]
  · have := hch.len; omega
theorem minus_bag (HB : Bag w0 w l) (h1 : (v1, P, k) ∈ l) (h2 : (v2, Q, m) ∈ l) (hb : k + m ≤ 1000000) :
    Calls Try.prog 19 #[v1, v2] w fun e w' => ∃ v, e = .returned v ∧ Bag w0 w' ((v, (fun z => P z && !Q z), k + m) :: l) ∧ Below w.heap.size w w' := by
  obtain ⟨A, n, c, xs, rfl, s1, a1, m1, l1⟩ := HB.all _ _ _ h1
  obtain ⟨A', n', c', ys, rfl, s2, a2, m2, l2⟩ := HB.all _ _ _ h2
  refine (SoI.minus_any A A' n n' c c' xs ys w s1 s2 a1 a2 (by have := s1.len; have := s2.len; omega)).mono ?_
  rintro e w' ⟨Ao, ko, co, out, rfl, hch, hsl, hbl⟩
  refine ⟨_, rfl, (HB.below hbl).add ⟨Ao, ko, co, out, rfl, hsl, hch.asc, fun z => ?_, ?_⟩, hbl⟩
  · rw [chosen_int hch m1 m2]; rcases hP : P z <;> rcases hQ : Q z <;> simp [hP, hQ]
  · have := hch.len; omega
theorem withinB_int {s o : List Int} {P Q : Int → Bool} (hs : ∀ z, z ∈ s ↔ P z = true) (ho : ∀ z, z ∈ o ↔ Q z = true) : SoI.withinB s o = true ↔ ∀ z, P z = true → Q z = true := by
  unfold SoI.withinB
  rw [List.all_eq_true]
  constructor
  · intro h z hz
    have := h z ((hs z).2 hz)
    rw [isIn_int, decide_eq_true_iff] at this
    exact (ho z).1 this
  · intro h z hz
    rw [isIn_int, decide_eq_true_iff]
    exact (ho z).2 (h z ((hs z).1 hz))
theorem within_any_bag (HB : Bag w0 w l) (h1 : (v1, P, k) ∈ l) (h2 : (v2, Q, m) ∈ l) (hb : k + m ≤ 1000000) :
    Calls Try.prog 20 #[v1, v2] w fun e w' => ∃ b : Bool, e = .returned (.bool b) ∧ (b = true ↔ ∀ z, P z = true → Q z = true) ∧ Bag w0 w' l ∧ Below w.heap.size w w' := by
  obtain ⟨A, n, c, xs, rfl, s1, a1, m1, l1⟩ := HB.all _ _ _ h1
  obtain ⟨A', n', c', ys, rfl, s2, a2, m2, l2⟩ := HB.all _ _ _ h2
  refine (SoI.within_any A A' n n' c c' xs ys w s1 s2 a1 a2 (by have := s1.len; have := s2.len; omega)).mono ?_
  rintro e w' ⟨rfl, hbl⟩
  exact ⟨_, rfl, withinB_int m1 m2, HB.below hbl, hbl⟩
theorem within_bag (HB : Bag w0 w l) (h1 : (v1, P, k) ∈ l) (h2 : (v2, Q, m) ∈ l) (hb : k + m ≤ 1000000) (hpq : ∀ z, P z = true → Q z = true) :
    Calls Try.prog 20 #[v1, v2] w fun e w' => e = .returned (.bool true) ∧ Bag w0 w' l ∧ Below w.heap.size w w' := by
  refine (within_any_bag HB h1 h2 hb).mono ?_
  rintro e w' ⟨b, rfl, hbb, h⟩
  rw [hbb.2 hpq]
  exact ⟨rfl, h⟩
theorem same_any_bag (HB : Bag w0 w l) (h1 : (v1, P, k) ∈ l) (h2 : (v2, Q, m) ∈ l) (hb : k + m ≤ 1000000) :
    Calls Try.prog 17 #[v1, v2] w fun e w' => ∃ b : Bool, e = .returned (.bool b) ∧ (b = true ↔ ∀ z, P z = Q z) ∧ Bag w0 w' l ∧ Below w.heap.size w w' := by
  obtain ⟨A, n, c, xs, rfl, s1, a1, m1, l1⟩ := HB.all _ _ _ h1
  obtain ⟨A', n', c', ys, rfl, s2, a2, m2, l2⟩ := HB.all _ _ _ h2
  refine (SoI.same_any A A' n n' c c' xs ys w s1 s2 a1 a2 (by have := s1.len; have := s2.len; omega)).mono ?_
  rintro e w' ⟨rfl, hbl⟩
  refine ⟨_, rfl, ?_, HB.below hbl, hbl⟩
  unfold SoI.sameB
  rw [Bool.and_eq_true, withinB_int m1 m2, withinB_int m2 m1]
  constructor
  · rintro ⟨h, h'⟩ z
    rw [Bool.eq_iff_iff]
    exact ⟨h z, h' z⟩
  · intro h
    exact ⟨fun z hz => by rw [← h z]; exact hz, fun z hz => by rw [h z]; exact hz⟩
theorem same_bag (HB : Bag w0 w l) (h1 : (v1, P, k) ∈ l) (h2 : (v2, Q, m) ∈ l) (hb : k + m ≤ 1000000) (hpq : ∀ z, P z = Q z) :
    Calls Try.prog 17 #[v1, v2] w fun e w' => e = .returned (.bool true) ∧ Bag w0 w' l ∧ Below w.heap.size w w' := by
  refine (same_any_bag HB h1 h2 hb).mono ?_
  rintro e w' ⟨b, rfl, hbb, h⟩
  rw [hbb.2 hpq]
  exact ⟨rfl, h⟩
/-- how many are in it -/
def Card (P : Int → Bool) (n : Nat) : Prop := ∃ xs : List Int, Asc cmpI xs ∧ (∀ z, z ∈ xs ↔ P z = true) ∧ xs.length = n
theorem Card.unique {n n' : Nat} (h : Card P n) (h' : Card P n') : n = n' := by
  obtain ⟨xs, a, m, rfl⟩ := h
  obtain ⟨ys, a', m', rfl⟩ := h'
  rw [Asc.ext cmpokI a a' fun z => by rw [m, m']]
theorem Card.congr {n : Nat} (h : Card P n) (e : ∀ z, P z = Q z) : Card Q n := by
  obtain ⟨xs, a, m, rfl⟩ := h
  exact ⟨xs, a, fun z => by rw [m, e], rfl⟩
theorem Card.zero (h : ∀ z, P z = false) : Card P 0 := ⟨[], List.Pairwise.nil, fun z => by simp [h z], rfl⟩
theorem len_bag (HB : Bag w0 w l) (h1 : (v1, P, k) ∈ l) {n : Nat} (hc : Card P n) :
    Calls Try.prog 14 #[v1] w fun e w' => e = .returned (.int .i64 n) ∧ Bag w0 w' l ∧ Below w.heap.size w w' := by
  obtain ⟨A, n', c, xs, rfl, s1, a1, m1, l1⟩ := HB.all _ _ _ h1
  obtain rfl : n = n' := hc.unique ⟨xs, a1, m1, s1.len⟩
  refine (SoI.len_any A n c w).mono ?_
  rintro e w' ⟨rfl, hbl⟩
  exact ⟨rfl, HB.below hbl, hbl⟩
end

/-- the list of what is in -/
theorem Card.filter {P : Int → Bool} (Q : Int → Bool) {xs : List Int} (ha : Asc cmpI xs) (hm : ∀ z, z ∈ xs ↔ P z = true) : Card (fun z => P z && Q z) (xs.filter Q).length :=
  ⟨xs.filter Q, ha.filter _, fun z => by rw [List.mem_filter, hm, Bool.and_eq_true], rfl⟩
theorem filter_two (P : Int → Bool) : ∀ l : List Int, l.length = (l.filter P).length + (l.filter (fun z => !P z)).length
  | [] => rfl
  | x :: l => by
    have h := filter_two P l
    rcases hP : P x <;> simp [hP] <;> omega
/-- THE LAW OF COUNTS -/
theorem card_law {P Q : Int → Bool} {a b c d : Nat} (hj : Card (fun z => P z || Q z) a) (hm : Card (fun z => P z && Q z) b) (hp : Card P c) (hq : Card Q d) : a + b = c + d := by
  obtain ⟨L, aL, mL, rfl⟩ := hj
  obtain ⟨ys, aY, mY, rfl⟩ := hq
  have h1 := Card.filter P aL mL
  have h2 := Card.filter (fun z => !P z) aL mL
  have h3 := Card.filter P aY mY
  have h4 := Card.filter (fun z => !P z) aY mY
  have e1 := hp.unique (h1.congr (fun z => by cases P z <;> cases Q z <;> rfl))
  have e2 := (h2.congr (Q := fun z => Q z && !P z) (fun z => by cases P z <;> cases Q z <;> rfl)).unique h4
  have e3 := hm.unique (h3.congr (fun z => by cases P z <;> cases Q z <;> rfl))
  have f1 := filter_two P L
  have f2 := filter_two P ys
  omega

/-- four cells stay -/
theorem keep4 {w w' : World} {p1 p2 p3 p4 : Addr} {v1 v2 v3 v4 : Value} (hb : Below w.heap.size w w') (h : w.cell? p1 = some v1 ∧ w.cell? p2 = some v2 ∧ w.cell? p3 = some v3 ∧ w.cell? p4 = some v4) :
    w'.cell? p1 = some v1 ∧ w'.cell? p2 = some v2 ∧ w'.cell? p3 = some v3 ∧ w'.cell? p4 = some v4 := by
  obtain ⟨h1, h2, h3, h4⟩ := h
  have k : ∀ (p : Addr) (v : Value), w.cell? p = some v → w'.cell? p = some v := fun p v h => (hb.cell (World.block_lt_of_cell? _ _ h)).trans h
  exact ⟨k _ _ h1, k _ _ h2, k _ _ h3, k _ _ h4⟩
end Go.Proofs.Ytpacnpiiahchiaa
