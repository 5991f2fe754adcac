/- Sets of ints told by the numbers in them, for callers. Conditions: lengths within Go's bound. -/
import Derived.Test.YtdlnglffimcopaaSet5I
import Derived.Test.YtdlnglffimcopaaInsI
import Derived.Test.YtdlnglffimcopaaOwn
namespace Go.Proofs.Ytdlnglffimcopaa
open Go.RowKit

theorem mem_setOfI (z : Int) (xs : List Int) : z ∈ setOf cmpI xs ↔ z ∈ xs := by
  rw [mem_setOf cmpokI]
  constructor
  · rintro ⟨i, _, e, _⟩; exact List.mem_of_getElem? e
  · intro h
    obtain ⟨i0, hi0⟩ := List.getElem?_of_mem h
    obtain ⟨i, hi, hmin⟩ := least_bad (P := fun i => xs[i]? = some z) id i0 i0 (Nat.le_refl _) hi0
    refine ⟨i, (List.getElem?_eq_some_iff.1 hi).1, hi, fun j y hj hy h0 => ?_⟩
    rw [cmpI_zero] at h0
    subst h0
    have := hmin j hy
    simp only [id] at this
    omega
theorem isIn_I (x : Int) (l : List Int) : isIn cmpI x l = decide (x ∈ l) := by
  rw [Bool.eq_iff_iff, isIn_iff, decide_eq_true_iff]
  constructor
  · rintro ⟨y, hy, h0⟩; rw [cmpI_zero] at h0; rw [← h0]; exact hy
  · exact fun h => ⟨x, h, by rw [cmpI_zero]⟩
/-- a set of ints whose numbers are those of a list -/
def ISet (w : World) (C : Option Addr) (k : Nat) (l : List Int) : Prop := ∃ xs, Sl (Value.int .i64) w C k xs ∧ Asc cmpI xs ∧ ∀ x, x ∈ xs ↔ x ∈ l
theorem ISet.below {w w' : World} {C : Option Addr} {k : Nat} {l : List Int} (h : ISet w C k l) {B : Nat} (hB : w.heap.size ≤ B) (hb : Below B w w') : ISet w' C k l := by
  obtain ⟨xs, h1, h2⟩ := h; exact ⟨xs, h1.below hB hb, h2⟩
instance {C : Option Addr} {k : Nat} {l : List Int} : Stable (fun w => ISet w C k l) := ⟨fun hb h => h.below (Nat.le_refl _) hb⟩
theorem ISet.congr {w : World} {C : Option Addr} {k : Nat} {l m : List Int} (h : ISet w C k l) (he : ∀ x, x ∈ l ↔ x ∈ m) : ISet w C k m := by
  obtain ⟨xs, h1, h2, h3⟩ := h; exact ⟨xs, h1, h2, fun x => (h3 x).trans (he x)⟩
/-- .. that lies among the blocks from base on -/
def ISetF (base : Nat) (w : World) (C : Option Addr) (k : Nat) (l : List Int) : Prop := ISet w C k l ∧ Fr base C
theorem ISetF.setLow {base : Nat} {w : World} {C : Option Addr} {k : Nat} {l : List Int} (h : ISetF base w C k l) {p : Addr} (hp : p.block < base) (v : Value) : ISetF base (w.setCell p v) C k l := by
  obtain ⟨⟨xs, h1, h2⟩, h3⟩ := h
  exact ⟨⟨xs, h1.setLow h3 hp v, h2⟩, h3⟩
theorem ISetF.mono {base base' : Nat} {w : World} {C : Option Addr} {k : Nat} {l : List Int} (h : ISetF base w C k l) (hb : base' ≤ base) : ISetF base' w C k l := ⟨h.1, h.2.mono hb⟩
instance {base : Nat} {C : Option Addr} {k : Nat} {l : List Int} : Stable (fun w => ISetF base w C k l) := ⟨fun hb h => ⟨h.1.below (Nat.le_refl _) hb, h.2⟩⟩
theorem asc_nodup {l : List Int} (h : Asc cmpI l) : l.Nodup := by
  rw [List.nodup_iff_pairwise_ne]
  exact h.imp fun {a b} hab e => by subst e; have : cmpI a a = 0 := by rw [cmpI_zero]
                                    omega
theorem ISet.length_le {w : World} {C : Option Addr} {k : Nat} {l : List Int} (h : ISet w C k l) : k ≤ l.length := by
  obtain ⟨xs, h1, h2, h3⟩ := h
  have := (asc_nodup h2).length_le_of_subset (fun x hx => (h3 x).1 hx)
  rw [h1.len] at this; exact this
/-- all of whose numbers are below n, and not below 0 -/
theorem ISet.length_lt {w : World} {C : Option Addr} {k : Nat} {l : List Int} (h : ISet w C k l) {n : Nat} (hl : ∀ x, x ∈ l → 0 ≤ x ∧ x < (n : Int)) : k ≤ n := by
  obtain ⟨xs, h1, h2, h3⟩ := h
  have h4 : (xs.map Int.toNat).Nodup := by
    rw [List.nodup_iff_pairwise_ne, List.pairwise_map]
    refine (List.nodup_iff_pairwise_ne.1 (asc_nodup h2)).imp_of_mem fun {a b} ha hb hne e => hne ?_
    have := hl a ((h3 a).1 ha)
    have := hl b ((h3 b).1 hb)
    omega
  have h5 := nodup_lt_length h4 (n := n) (fun x hx => by
    obtain ⟨y, hy, rfl⟩ := List.mem_map.1 hx
    have := hl y ((h3 y).1 hy)
    omega)
  rw [List.length_map, h1.len] at h5
  exact h5
theorem of_I (A : Option Addr) (n c : Nat) (xs : List Int) (w : World) (hx : Sl (Value.int .i64) w A n xs) (hb : n * 8 ≤ 140737488355328) :
    Calls Try.prog 49 #[.slice A n c] w fun e w' => ∃ A' k c', e = .returned (.agg #[.slice A' k c']) ∧ ISetF w.heap.size w' A' k xs ∧ k ≤ n ∧ Below w.heap.size w w' := by
  have hl := hx.len
  refine (SoI.of_any A n c xs w hx hb).mono ?_
  rintro e w' ⟨A', k, c', rfl, how, hbl⟩
  have hlen := how.length
  have hle := setOf_length_le (c := cmpI) xs
  exact ⟨A', k, c', rfl, ⟨⟨_, how.sl (by omega), asc_setOf cmpokI _, fun x => mem_setOfI x xs⟩, how.fr.mono (Nat.le_succ _)⟩, by omega, hbl⟩
theorem has_I (A : Option Addr) (n c : Nat) (l : List Int) (x : Int) (w : World) (h : ISet w A n l) :
    Calls Try.prog 48 #[.agg #[.slice A n c], .int .i64 x] w fun e w' => e = .returned (.bool (decide (x ∈ l))) ∧ Below w.heap.size w w' := by
  obtain ⟨xs, h1, h2, h3⟩ := h
  have := SoI.has_any A n c xs x w h1 h2
  rw [isIn_I] at this
  have e : decide (x ∈ xs) = decide (x ∈ l) := by rw [Bool.eq_iff_iff, decide_eq_true_iff, decide_eq_true_iff]; exact h3 x
  rw [e] at this
  exact this
theorem list_I (A : Option Addr) (n c : Nat) (l : List Int) (w : World) (h : ISet w A n l) (hb : n * 8 ≤ 140737488355328) :
    Calls Try.prog 50 #[.agg #[.slice A n c]] w fun e w' => ∃ A' c' xs, e = .returned (.slice A' n c') ∧ OwnR (Value.int .i64) w' (w.heap.size + 1) 3 A' n c' xs ∧ Asc cmpI xs ∧ (∀ x, x ∈ xs ↔ x ∈ l) ∧ Below w.heap.size w w' := by
  obtain ⟨xs, h1, h2, h3⟩ := h
  refine (SoI.list_any A n c xs w h1 hb).mono ?_
  rintro e w' ⟨A', c', rfl, how, hbl⟩
  exact ⟨A', c', xs, rfl, how, h2, h3, hbl⟩
theorem join_I (A A' : Option Addr) (n m c c' : Nat) (s o : List Int) (w : World) (hs : ISet w A n s) (ho : ISet w A' m o) (hb : (n + m) * 8 ≤ 140737488355328) :
    Calls Try.prog 60 #[.agg #[.slice A n c], .agg #[.slice A' m c']] w fun e w' => ∃ B k d, e = .returned (.agg #[.slice B k d]) ∧ ISet w' B k (s ++ o) ∧ k ≤ n + m ∧ Below w.heap.size w w' := by
  obtain ⟨xs, h1, h2, h3⟩ := hs
  obtain ⟨ys, g1, g2, g3⟩ := ho
  refine (SoI.join_any A A' n m c c' xs ys w h1 g1 h2 g2 hb).mono ?_
  rintro e w' ⟨B, k, d, out, rfl, hc, hsl, hbl⟩
  have hlen := hc.len
  rw [h1.len, g1.len, hsl.len] at hlen
  refine ⟨B, k, d, rfl, ⟨out, hsl, hc.asc, fun x => ?_⟩, hlen, hbl⟩
  rw [hc.mem, List.mem_append, ← h3, ← g3]
  have hw : want cmpI true true ys x = true := by unfold want; split <;> rfl
  rw [hw, isIn_I]
  constructor
  · rintro (⟨a, _⟩ | ⟨a, _, _⟩)
    · exact .inl a
    · exact .inr a
  · rintro (a | a)
    · exact .inl ⟨a, rfl⟩
    · by_cases hx : x ∈ xs
      · exact .inl ⟨hx, rfl⟩
      · exact .inr ⟨a, by simpa using hx, rfl⟩
theorem meet_I (A A' : Option Addr) (n m c c' : Nat) (s o : List Int) (w : World) (hs : ISet w A n s) (ho : ISet w A' m o) (hb : (n + m) * 8 ≤ 140737488355328) :
    Calls Try.prog 56 #[.agg #[.slice A n c], .agg #[.slice A' m c']] w fun e w' => ∃ B k d, e = .returned (.agg #[.slice B k d]) ∧ ISet w' B k (s.filter fun x => o.contains x) ∧ Below w.heap.size w w' := by
  obtain ⟨xs, h1, h2, h3⟩ := hs
  obtain ⟨ys, g1, g2, g3⟩ := ho
  refine (SoI.meet_any A A' n m c c' xs ys w h1 g1 h2 g2 hb).mono ?_
  rintro e w' ⟨B, k, d, out, rfl, hc, hsl, hbl⟩
  refine ⟨B, k, d, rfl, ⟨out, hsl, hc.asc, fun x => ?_⟩, hbl⟩
  rw [hc.mem, List.mem_filter, ← h3, List.contains_iff_mem, ← g3]
  unfold want
  rw [isIn_I]
  by_cases hx : x ∈ ys <;> simp [hx]
theorem with_I (A : Option Addr) (n c : Nat) (l : List Int) (x : Int) (w : World) (h : ISet w A n l) (hb : (n + 1) * 8 ≤ 140737488355328) :
    Calls Try.prog 59 #[.agg #[.slice A n c], .int .i64 x] w fun e w' => ∃ B k d, e = .returned (.agg #[.slice B k d]) ∧ ISet w' B k (l ++ [x]) ∧ k ≤ n + 1 ∧ Below w.heap.size w w' := by
  obtain ⟨xs, h1, h2, h3⟩ := h
  refine (SoI.with_any A n c xs x w h1 h2 hb).mono ?_
  rintro e w' ⟨B, k, d, rfl, hsl, hbl⟩
  have hlen := ins_length_le (c := cmpI) x xs
  rw [hsl.len, h1.len] at hlen
  refine ⟨B, k, d, rfl, ⟨_, hsl, asc_ins cmpokI h2, fun y => ?_⟩, hlen, hbl⟩
  rw [mem_ins cmpokI h2, h3, List.mem_append, List.mem_singleton, isIn_I]
  constructor
  · rintro (a | ⟨a, _⟩)
    · exact .inl a
    · exact .inr a
  · rintro (a | a)
    · exact .inl a
    · by_cases hx : x ∈ xs
      · subst a; exact .inl ((h3 _).1 hx)
      · exact .inr ⟨a, by simpa using hx⟩
theorem without_I (A : Option Addr) (n c : Nat) (l : List Int) (x : Int) (w : World) (h : ISet w A n l) (hb : n * 8 ≤ 140737488355328) :
    Calls Try.prog 61 #[.agg #[.slice A n c], .int .i64 x] w fun e w' => ∃ B k d, e = .returned (.agg #[.slice B k d]) ∧ ISet w' B k (l.filter fun y => y != x) ∧ Below w.heap.size w w' := by
  obtain ⟨xs, h1, h2, h3⟩ := h
  refine (SoI.without_any A n c xs x w h1 h2 hb).mono ?_
  rintro e w' ⟨B, k, d, rfl, hsl, hbl⟩
  refine ⟨B, k, d, rfl, ⟨_, hsl, asc_rem h2, fun y => ?_⟩, hbl⟩
  rw [mem_rem, h3, List.mem_filter]
  simp [cmpI_zero]
theorem len_I (A : Option Addr) (n c : Nat) (w : World) : Calls Try.prog 57 #[.agg #[.slice A n c]] w fun e w' => e = .returned (.int .i64 n) ∧ Below w.heap.size w w' := SoI.len_any A n c w
end Go.Proofs.Ytdlnglffimcopaa
