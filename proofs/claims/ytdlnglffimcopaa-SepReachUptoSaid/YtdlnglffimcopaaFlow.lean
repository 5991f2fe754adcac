/- Plain law: a search over states that takes one after the other comes to all that open trails come to. No condition. -/
import Derived.Test.YtdlnglffimcopaaGoes
namespace Go.Proofs.Ytdlnglffimcopaa

def Zp (Z : List Int) (p : Nat) : Prop := zB Z p = true
def Ap (G : List (List Nat)) (Z : List Int) (p : Nat) : Prop := aB G Z p = true
theorem mem_nextL {G : List (List Nat)} {Z : List Int} {s t : St} (hs : s.1 < G.length) : t ∈ nextL G Z s ↔ Nx G (Zp Z) (Ap G Z) s t := by
  obtain ⟨p, u⟩ := s
  unfold nextL
  constructor
  · intro h
    split at h
    · simp at h
    · rename_i h1
      have h1' : ¬ (u = true ∧ Zp Z p) := by intro ⟨a, b⟩; apply h1; rw [Bool.and_eq_true]; exact ⟨a, b⟩
      rcases List.mem_append.1 h with h2 | h2
      · split at h2
        · rename_i h3
          obtain ⟨q, hq, rfl⟩ := List.mem_map.1 h2
          refine .up h1' ?_ hq
          rw [Bool.or_eq_true] at h3; exact h3
        · simp at h2
      · split at h2
        · simp at h2
        · rename_i h3
          obtain ⟨c, hc, rfl⟩ := List.mem_map.1 h2
          rw [mem_kids hs] at hc
          exact .down h3 hc.1 hc.2
  · intro h
    cases h with
    | up g1 g2 g3 =>
      rename_i q
      rw [if_neg (by rw [Bool.and_eq_true]; exact g1), if_pos (by rw [Bool.or_eq_true]; exact g2)]
      exact List.mem_append_left _ (List.mem_map.2 ⟨q, g3, rfl⟩)
    | down g1 g2 g3 =>
      rename_i c
      rw [if_neg (by rw [Bool.and_eq_true]; exact fun h => g1 h.2)]
      refine List.mem_append_right _ ?_
      rw [if_neg (show ¬ zB Z p = true from g1)]
      exact List.mem_map.2 ⟨c, (mem_kids hs).2 ⟨g2, g3⟩, rfl⟩
/-- a state that is come to from some points that are not given -/
def CameS (G : List (List Nat)) (Z : List Int) (xs : List Nat) (s : St) : Prop := ∃ a m, a ∈ xs ∧ zB Z a = false ∧ Go (G := G) (Z := Zp Z) (Ab := Ap G Z) m (a, true) s
theorem mem_addS {l : List St} : ∀ {S : List St} {t : St}, t ∈ addS S l ↔ t ∈ S ∨ t ∈ l := by
  induction l with
  | nil => intro S t; simp [addS]
  | cons s l ih =>
    intro S t
    show t ∈ addS (add1 S s) l ↔ _
    rw [ih, mem_add1, List.mem_cons]
    constructor
    · rintro ((h | h) | h)
      · exact .inl h
      · exact .inr (.inl h)
      · exact .inr (.inr h)
    · rintro (h | h | h)
      · exact .inl (.inl h)
      · exact .inl (.inr h)
      · exact .inr h
theorem addS_prefix (l : List St) : ∀ S : List St, ∃ m, addS S l = S ++ m := by
  induction l with
  | nil => intro S; exact ⟨[], by simp [addS]⟩
  | cons s l ih =>
    intro S
    obtain ⟨m1, h1⟩ := add1_prefix S s
    obtain ⟨m2, h2⟩ := ih (add1 S s)
    exact ⟨m1 ++ m2, by show addS (add1 S s) l = _; rw [h2, h1, List.append_assoc]⟩
theorem addS_length (S l : List St) : S.length ≤ (addS S l).length := by obtain ⟨m, h⟩ := addS_prefix l S; rw [h]; simp
theorem nth_addS {S l : List St} {j : Nat} (h : j < S.length) : nth (addS S l) j = nth S j := by obtain ⟨m, e⟩ := addS_prefix l S; rw [e, nth_append_left h]
/-- the search on its way: S was seen, the first pos of it are done -/
structure Fl (G : List (List Nat)) (Z : List Int) (xs : List Nat) (S : List St) (pos : Nat) : Prop where
  came : ∀ s, s ∈ S → CameS G Z xs s
  start : ∀ a, a ∈ xs → zB Z a = false → ((a, true) : St) ∈ S
  clo : ∀ j, j < pos → ∀ t, t ∈ nextL G Z (nth S j) → t ∈ S
theorem Fl.begin {G : List (List Nat)} {Z : List Int} {xs : List Nat} : Fl G Z xs (addS [] ((xs.filter fun a => ! zB Z a).map fun a => (a, true))) 0 := by
  refine ⟨fun s hs => ?_, fun a ha hz => ?_, fun j hj => by omega⟩
  · rcases mem_addS.1 hs with h | h
    · simp at h
    · obtain ⟨a, ha, rfl⟩ := List.mem_map.1 h
      rw [List.mem_filter] at ha
      exact ⟨a, 0, ha.1, by simpa using ha.2, .refl _⟩
  · exact mem_addS.2 (.inr (List.mem_map.2 ⟨a, List.mem_filter.2 ⟨ha, by simp [hz]⟩, rfl⟩))
theorem Fl.step {G : List (List Nat)} {Z : List Int} {xs : List Nat} {S : List St} {pos : Nat} (h : Fl G Z xs S pos) (hp : pos < S.length) (hb : ∀ s, s ∈ S → s.1 < G.length) : Fl G Z xs (addS S (nextL G Z (nth S pos))) (pos + 1) := by
  have hm := nth_mem hp
  refine ⟨fun s hs => ?_, fun a ha hz => mem_addS.2 (.inl (h.start a ha hz)), fun j hj t ht => ?_⟩
  · rcases mem_addS.1 hs with h1 | h1
    · exact h.came s h1
    · obtain ⟨a, m, ha, hz, hg⟩ := h.came _ hm
      exact ⟨a, m + 1, ha, hz, hg.snoc ((mem_nextL (hb _ hm)).1 h1)⟩
  · rcases Nat.lt_or_ge j pos with h1 | h1
    · rw [nth_addS (by omega)] at ht
      exact mem_addS.2 (.inl (h.clo j h1 t ht))
    · obtain rfl : j = pos := by omega
      rw [nth_addS hp] at ht
      exact mem_addS.2 (.inr ht)
theorem Fl.done {G : List (List Nat)} {Z : List Int} {xs : List Nat} {S : List St} (h : Fl G Z xs S S.length) (hb : ∀ s, s ∈ S → s.1 < G.length) (s : St) : s ∈ S ↔ CameS G Z xs s := by
  refine ⟨h.came s, ?_⟩
  rintro ⟨a, m, ha, hz, hg⟩
  have hs := h.start a ha hz
  clear ha hz
  generalize (a, true) = r at hs hg
  induction hg with
  | refl => exact hs
  | snoc _ hx ih =>
    have h1 := ih hs
    obtain ⟨j, hj, e⟩ := mem_nth h1
    rw [← e] at hx
    exact h.clo j hj _ ((mem_nextL (hb _ (nth_mem hj))).2 hx)
theorem next_lt {G : List (List Nat)} {p : Nat} (hg : GoodG G) (hp : p < G.length) : (∀ q, q ∈ nth G p → q < G.length) ∧ ∀ q, q ∈ nth (kids G) p → q < G.length := by
  refine ⟨fun q hq => hg p hp q hq, fun q hq => ?_⟩
  exact ((mem_kids hp).1 hq).1
end Go.Proofs.Ytdlnglffimcopaa
