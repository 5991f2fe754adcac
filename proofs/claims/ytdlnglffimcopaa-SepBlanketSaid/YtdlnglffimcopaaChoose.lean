/- Plain facts on what of two rising lists is chosen, step by step, without any program. No condition beyond that the comparison compares. -/
import Derived.Test.YtdlnglffimcopaaSetMath
namespace Go.Proofs.Ytdlnglffimcopaa

section
variable {α : Type} [Inhabited α] {c : α → α → Int}

/-- what of two sets is wanted of a thing of the first one -/
def want (c : α → α → Int) (l b : Bool) (o : List α) (z : α) : Bool := if isIn c z o then b else l
/-- chosen out of the first i things of s and the first k of o -/
structure ChosenAt (c : α → α → Int) (l b r : Bool) (s o : List α) (i k : Nat) (out : List α) : Prop where
  le1 : i ≤ s.length
  le2 : k ≤ o.length
  c1 : ∀ t u, t < i → k ≤ u → u < o.length → c (nth s t) (nth o u) < 0
  c2 : ∀ t u, i ≤ t → t < s.length → u < k → c (nth o u) (nth s t) < 0
  asc : Asc c out
  mem : ∀ z, z ∈ out ↔ (∃ t, t < i ∧ nth s t = z ∧ want c l b o z = true) ∨ (∃ u, u < k ∧ nth o u = z ∧ isIn c z s = false ∧ r = true)
  len : out.length ≤ i + k

/-- chosen, whole -/
structure Chosen (c : α → α → Int) (l b r : Bool) (s o out : List α) : Prop where
  asc : Asc c out
  mem : ∀ z, z ∈ out ↔ (z ∈ s ∧ want c l b o z = true) ∨ (z ∈ o ∧ isIn c z s = false ∧ r = true)
  len : out.length ≤ s.length + o.length

theorem ChosenAt.start (l b r : Bool) (s o : List α) : ChosenAt c l b r s o 0 0 [] :=
  ⟨Nat.zero_le _, Nat.zero_le _, fun t u h => by omega, fun t u _ _ h => by omega, List.Pairwise.nil, fun z => by simp, by simp⟩
theorem ChosenAt.done {l b r : Bool} {s o out : List α} (h : ChosenAt c l b r s o s.length o.length out) : Chosen c l b r s o out := by
  refine ⟨h.asc, fun z => ?_, h.len⟩
  rw [h.mem]
  constructor
  · rintro (⟨t, ht, e, hw⟩ | ⟨u, hu, e, hw⟩)
    · exact .inl ⟨by rw [← e]; exact nth_mem ht, hw⟩
    · exact .inr ⟨by rw [← e]; exact nth_mem hu, hw⟩
  · rintro (⟨hz, hw⟩ | ⟨hz, hw⟩)
    · obtain ⟨t, ht, e⟩ := mem_nth hz
      exact .inl ⟨t, ht, e, hw⟩
    · obtain ⟨u, hu, e⟩ := mem_nth hz
      exact .inr ⟨u, hu, e, hw⟩
omit [Inhabited α] in
theorem asc_snoc {out : List α} {x : α} (h : Asc c out) (hx : ∀ z, z ∈ out → c z x < 0) : Asc c (out ++ [x]) :=
  List.pairwise_append.2 ⟨h, List.pairwise_singleton _ _, fun z hz y hy => by rw [List.mem_singleton.1 hy]; exact hx z hz⟩

section
variable {l b r : Bool} {s o out : List α} {i k : Nat}
/-- all that is chosen is before the next things -/
theorem ChosenAt.before1 (h : ChosenAt c l b r s o i k out) (hs : Asc c s) (hi : i < s.length) : ∀ z, z ∈ out → c z (nth s i) < 0 := by
  intro z hz
  rcases (h.mem z).1 hz with ⟨t, ht, e, _⟩ | ⟨u, hu, e, _⟩
  · rw [← e]; exact nth_asc hs ht hi
  · rw [← e]; exact h.c2 i u (Nat.le_refl _) hi hu
theorem ChosenAt.before2 (h : ChosenAt c l b r s o i k out) (ho : Asc c o) (hk : k < o.length) : ∀ z, z ∈ out → c z (nth o k) < 0 := by
  intro z hz
  rcases (h.mem z).1 hz with ⟨t, ht, e, _⟩ | ⟨u, hu, e, _⟩
  · rw [← e]; exact h.c1 t k ht (Nat.le_refl _) hk
  · rw [← e]; exact nth_asc ho hu hk
/-- the next thing of s is not in o -/
theorem ChosenAt.left (hc : CmpOk c) (h : ChosenAt c l b r s o i k out) (hs : Asc c s) (ho : Asc c o) (hi : i < s.length) (hlt : k < o.length → c (nth s i) (nth o k) < 0) :
    ChosenAt c l b r s o (i + 1) k (if l then out ++ [nth s i] else out) := by
  have hall : ∀ u, k ≤ u → u < o.length → c (nth s i) (nth o u) < 0 := by
    intro u hu hu2
    have h1 := hlt (by omega)
    by_cases e : u = k
    · rw [e]; exact h1
    · exact hc.lt_trans h1 (nth_asc ho (by omega) hu2)
  have hnin : isIn c (nth s i) o = false := by
    rw [← Bool.not_eq_true, isIn_iff]
    rintro ⟨y, hy, h0⟩
    obtain ⟨u, hu, rfl⟩ := mem_nth hy
    by_cases e : u < k
    · have := h.c2 i u (Nat.le_refl _) hi e; omega
    · have h1 := hall u (by omega) hu
      have := hc.flip (nth o u) (nth s i); omega
  have hw : want c l b o (nth s i) = l := by unfold want; rw [hnin]; rfl
  refine ⟨hi, h.le2, fun t u ht hu hu2 => ?_, fun t u ht ht2 hu => h.c2 t u (by omega) ht2 hu, ?_, fun z => ?_, ?_⟩
  · by_cases e : t = i
    · subst e; exact hall u hu hu2
    · exact h.c1 t u (by omega) hu hu2
  · split
    · exact asc_snoc h.asc (h.before1 hs hi)
    · exact h.asc
  · have h0 : (∃ t, t < i + 1 ∧ nth s t = z ∧ want c l b o z = true) ↔ (∃ t, t < i ∧ nth s t = z ∧ want c l b o z = true) ∨ (nth s i = z ∧ l = true) := by
      constructor
      · rintro ⟨t, ht, e, hz⟩
        by_cases e2 : t = i
        · subst e2; right; refine ⟨e, ?_⟩; rw [← e, hw] at hz; exact hz
        · left; exact ⟨t, by omega, e, hz⟩
      · rintro (⟨t, ht, e, hz⟩ | ⟨e, hz⟩)
        · exact ⟨t, by omega, e, hz⟩
        · exact ⟨i, by omega, e, by rw [← e, hw]; exact hz⟩
    rw [h0]
    cases l
    · simp [h.mem z]
    · simp only [if_true, List.mem_append, List.mem_singleton, h.mem z, and_true]
      constructor
      · rintro ((h1 | h1) | h1)
        · exact .inl (.inl h1)
        · exact .inr h1
        · exact .inl (.inr h1.symm)
      · rintro ((h1 | h1) | h1)
        · exact .inl (.inl h1)
        · exact .inr h1.symm
        · exact .inl (.inr h1)
  · have := h.len; split <;> (simp; omega)
/-- the next thing of o is not in s -/
theorem ChosenAt.right (hc : CmpOk c) (h : ChosenAt c l b r s o i k out) (hs : Asc c s) (ho : Asc c o) (hk : k < o.length) (hlt : i < s.length → c (nth o k) (nth s i) < 0) :
    ChosenAt c l b r s o i (k + 1) (if r then out ++ [nth o k] else out) := by
  have hall : ∀ t, i ≤ t → t < s.length → c (nth o k) (nth s t) < 0 := by
    intro t ht ht2
    have h1 := hlt (by omega)
    by_cases e : t = i
    · rw [e]; exact h1
    · exact hc.lt_trans h1 (nth_asc hs (by omega) ht2)
  have hnin : isIn c (nth o k) s = false := by
    rw [← Bool.not_eq_true, isIn_iff]
    rintro ⟨y, hy, h0⟩
    obtain ⟨t, ht, rfl⟩ := mem_nth hy
    by_cases e : t < i
    · have := h.c1 t k e (Nat.le_refl _) hk; omega
    · have h1 := hall t (by omega) ht
      have := hc.flip (nth s t) (nth o k); omega
  refine ⟨h.le1, hk, fun t u ht hu hu2 => h.c1 t u ht (by omega) hu2, fun t u ht ht2 hu => ?_, ?_, fun z => ?_, ?_⟩
  · by_cases e : u = k
    · subst e; exact hall t ht ht2
    · exact h.c2 t u ht ht2 (by omega)
  · split
    · exact asc_snoc h.asc (h.before2 ho hk)
    · exact h.asc
  · have h0 : (∃ u, u < k + 1 ∧ nth o u = z ∧ isIn c z s = false ∧ r = true) ↔ (∃ u, u < k ∧ nth o u = z ∧ isIn c z s = false ∧ r = true) ∨ (nth o k = z ∧ r = true) := by
      constructor
      · rintro ⟨t, ht, e, hz⟩
        by_cases e2 : t = k
        · subst e2; right; exact ⟨e, hz.2⟩
        · left; exact ⟨t, by omega, e, hz⟩
      · rintro (⟨t, ht, e, hz⟩ | ⟨e, hz⟩)
        · exact ⟨t, by omega, e, hz⟩
        · exact ⟨k, by omega, e, by rw [← e]; exact hnin, hz⟩
    rw [h0]
    cases r
    · simp [h.mem z]
    · simp only [if_true, List.mem_append, List.mem_singleton, h.mem z, and_true]
      constructor
      · rintro ((h1 | h1) | h1)
        · exact .inl h1
        · exact .inr (.inl h1)
        · exact .inr (.inr h1.symm)
      · rintro (h1 | h1 | h1)
        · exact .inl (.inl h1)
        · exact .inl (.inr h1)
        · exact .inr h1.symm
  · have := h.len; split <;> (simp; omega)
/-- the next things are equal -/
theorem ChosenAt.both (hc : CmpOk c) (h : ChosenAt c l b r s o i k out) (hs : Asc c s) (ho : Asc c o) (hi : i < s.length) (hk : k < o.length) (h0 : c (nth s i) (nth o k) = 0) :
    ChosenAt c l b r s o (i + 1) (k + 1) (if b then out ++ [nth s i] else out) := by
  have h0' := hc.zero_symm h0
  have hin : isIn c (nth s i) o = true := isIn_iff.2 ⟨_, nth_mem hk, h0'⟩
  have hin2 : isIn c (nth o k) s = true := isIn_iff.2 ⟨_, nth_mem hi, h0⟩
  have hw : want c l b o (nth s i) = b := by unfold want; rw [hin]; rfl
  refine ⟨hi, hk, fun t u ht hu hu2 => ?_, fun t u ht ht2 hu => ?_, ?_, fun z => ?_, ?_⟩
  · by_cases e : t = i
    · subst e; exact hc.zero_lt h0 (nth_asc ho (by omega) hu2)
    · exact h.c1 t u (by omega) (by omega) hu2
  · by_cases e : u = k
    · subst e; exact hc.zero_lt h0' (nth_asc hs (by omega) ht2)
    · exact h.c2 t u (by omega) ht2 (by omega)
  · split
    · exact asc_snoc h.asc (h.before1 hs hi)
    · exact h.asc
  · have e1 : (∃ t, t < i + 1 ∧ nth s t = z ∧ want c l b o z = true) ↔ (∃ t, t < i ∧ nth s t = z ∧ want c l b o z = true) ∨ (nth s i = z ∧ b = true) := by
      constructor
      · rintro ⟨t, ht, e, hz⟩
        by_cases e2 : t = i
        · subst e2; right; refine ⟨e, ?_⟩; rw [← e, hw] at hz; exact hz
        · left; exact ⟨t, by omega, e, hz⟩
      · rintro (⟨t, ht, e, hz⟩ | ⟨e, hz⟩)
        · exact ⟨t, by omega, e, hz⟩
        · exact ⟨i, by omega, e, by rw [← e, hw]; exact hz⟩
    have e2 : (∃ u, u < k + 1 ∧ nth o u = z ∧ isIn c z s = false ∧ r = true) ↔ (∃ u, u < k ∧ nth o u = z ∧ isIn c z s = false ∧ r = true) := by
      constructor
      · rintro ⟨t, ht, e, hz⟩
        by_cases e2 : t = k
        · subst e2; rw [← e, hin2] at hz; exact absurd hz.1 (by simp)
        · exact ⟨t, by omega, e, hz⟩
      · rintro ⟨t, ht, e, hz⟩
        exact ⟨t, by omega, e, hz⟩
    rw [e1, e2]
    cases b
    · simp [h.mem z]
    · simp only [if_true, List.mem_append, List.mem_singleton, h.mem z, and_true]
      constructor
      · rintro ((h1 | h1) | h1)
        · exact .inl (.inl h1)
        · exact .inr h1
        · exact .inl (.inr h1.symm)
      · rintro ((h1 | h1) | h1)
        · exact .inl (.inl h1)
        · exact .inr h1.symm
        · exact .inl (.inr h1)
  · have := h.len; split <;> (simp; omega)
end
end
end Go.Proofs.Ytdlnglffimcopaa
