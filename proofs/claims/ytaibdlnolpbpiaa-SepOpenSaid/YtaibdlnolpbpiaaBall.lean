/- Plain law: states by which open trails go on; what they come to is what simple open trails come to. Condition: no way leads back. -/
import Derived.Test.YtaibdlnolpbpiaaUp
namespace Go.Proofs.Ytaibdlnolpbpiaa

/-- a point, and whether it was come to from a child (or is the first) -/
abbrev St := Nat × Bool
/-- the states to which an open trail goes on -/
inductive Nx (G : List (List Nat)) (Z Ab : Nat → Prop) : St → St → Prop
  | up {p : Nat} {u : Bool} {q : Nat} : ¬ (u = true ∧ Z p) → (u = true ∨ Ab p) → q ∈ nth G p → Nx G Z Ab (p, u) (q, true)
  | down {p : Nat} {u : Bool} {c : Nat} : ¬ Z p → c < G.length → p ∈ nth G c → Nx G Z Ab (p, u) (c, false)
/-- some steps -/
inductive Go {G : List (List Nat)} {Z Ab : Nat → Prop} : Nat → St → St → Prop
  | refl (s : St) : Go 0 s s
  | snoc {m : Nat} {s t r : St} : Go m s t → Nx G Z Ab t r → Go (m + 1) s r
/-- what is above what is given is closed upward; what is given is in it -/
structure AbOk (G : List (List Nat)) (Z Ab : Nat → Prop) : Prop where
  sub : ∀ x, Z x → Ab x
  up : ∀ x, Ab x → ∀ p, p ∈ nth G x → Ab p

section
variable {G : List (List Nat)} {Z Ab : Nat → Prop}
theorem Go.trans {m n : Nat} {s t r : St} (h : Go (G := G) (Z := Z) (Ab := Ab) m s t) (k : Go (G := G) (Z := Z) (Ab := Ab) n t r) : Go (G := G) (Z := Z) (Ab := Ab) (m + n) s r := by
  induction k with
  | refl => exact h
  | snoc _ hx ih => exact Go.snoc (ih h) hx
theorem Go.one {s t : St} (h : Nx G Z Ab s t) : Go (G := G) (Z := Z) (Ab := Ab) 1 s t := (Go.refl s).snoc h
/-- the first step of a way that has one -/
theorem Go.head {m : Nat} {s r : St} (h : Go (G := G) (Z := Z) (Ab := Ab) (m + 1) s r) : ∃ t, Nx G Z Ab s t ∧ Go (G := G) (Z := Z) (Ab := Ab) m t r := by
  generalize hn : m + 1 = n at h
  induction h generalizing m with
  | refl => omega
  | snoc h1 hx ih =>
    rename_i m' s t r
    obtain rfl : m = m' := by omega
    cases m with
    | zero => cases h1; exact ⟨r, hx, .refl _⟩
    | succ m =>
      obtain ⟨t', ht, hg⟩ := ih rfl
      exact ⟨t', ht, hg.snoc hx⟩
/-- whoever comes to a state from a child, out of a state come to from a parent, has turned above what is given -/
theorem Go.turned (hA : AbOk G Z Ab) : ∀ {m : Nat} {p q : Nat}, Go (G := G) (Z := Z) (Ab := Ab) m (p, false) (q, true) → Ab p
  | 0, p, q, h => by cases h
  | m + 1, p, q, h => by
    obtain ⟨t, ht, hg⟩ := h.head
    cases ht with
    | up h1 h2 h3 => rcases h2 with h2 | h2; cases h2; exact h2
    | down h1 h2 h3 => exact hA.up _ (Go.turned hA hg) _ h3
/-- a point that is come to again: the way between may be left out -/
theorem Go.cut (hA : AbOk G Z Ab) {m : Nat} {c : Nat} {u v : Bool} {t : St} (h : Go (G := G) (Z := Z) (Ab := Ab) (m + 1) (c, u) (c, v)) (hx : Nx G Z Ab (c, v) t) : Nx G Z Ab (c, u) t := by
  cases hx with
  | down h1 h2 h3 => exact .down h1 h2 h3
  | up h1 h2 h3 =>
    cases u with
    | true =>
      obtain ⟨r, hr, _⟩ := h.head
      have hz : ¬ Z c := by
        cases hr with
        | up g1 _ _ => exact fun hz => g1 ⟨rfl, hz⟩
        | down g1 _ _ => exact g1
      exact .up (fun g => hz g.2) (.inl rfl) h3
    | false =>
      have ha : Ab c := by
        cases v with
        | true => exact h.turned hA
        | false => rcases h2 with h2 | h2; cases h2; exact h2
      exact .up (fun g => by cases g.1) (.inr ha) h3

/-- a way, state by state: the last one first -/
inductive Ways (G : List (List Nat)) (Z Ab : Nat → Prop) (a : St) : List St → Prop
  | one : Ways G Z Ab a [a]
  | more {s t : St} {l : List St} : Ways G Z Ab a (s :: l) → Nx G Z Ab s t → Ways G Z Ab a (t :: s :: l)
theorem Ways.ne {a : St} {l : List St} (h : Ways G Z Ab a l) : l ≠ [] := by cases h <;> simp
theorem Go.ways {m : Nat} {a s : St} (h : Go (G := G) (Z := Z) (Ab := Ab) m a s) : ∃ l, Ways G Z Ab a (s :: l) ∧ l.length = m := by
  induction h with
  | refl => exact ⟨[], .one, rfl⟩
  | snoc _ hx ih => obtain ⟨l, h1, h2⟩ := ih; exact ⟨_ :: l, .more h1 hx, by simp [h2]⟩
theorem Ways.go {a s : St} {l : List St} (h : Ways G Z Ab a (s :: l)) : Go (G := G) (Z := Z) (Ab := Ab) l.length a s := by
  generalize hk : s :: l = k at h
  induction h generalizing s l with
  | one => injection hk with h1 h2; subst h1 h2; exact .refl _
  | more _ hx ih => injection hk with h1 h2; subst h1 h2; exact (ih rfl).snoc hx
/-- what stands further back in a way is a way's end too, and the rest leads on -/
theorem Ways.split {a s t : St} {l1 l2 : List St} (h : Ways G Z Ab a (s :: l1 ++ t :: l2)) : Ways G Z Ab a (t :: l2) ∧ Go (G := G) (Z := Z) (Ab := Ab) (l1.length + 1) t s := by
  induction l1 generalizing s with
  | nil => cases h with
    | more h1 hx => exact ⟨h1, .one hx⟩
  | cons r l1 ih => cases h with
    | more h1 hx => obtain ⟨g1, g2⟩ := ih h1; exact ⟨g1, by simpa using g2.snoc hx⟩
theorem Ways.replace {a r y z : St} {k m p : List St} (h : Ways G Z Ab a (k ++ r :: y :: m)) (hz : Ways G Z Ab a (z :: p)) (hx : Nx G Z Ab z r) : Ways G Z Ab a (k ++ r :: z :: p) := by
  induction k with
  | nil => exact .more hz hx
  | cons s k ih =>
    cases k with
    | nil => cases h with
      | more h1 g1 => exact .more (ih h1) g1
    | cons s' k => cases h with
      | more h1 g1 => exact .more (ih h1) g1
theorem twice_split : ∀ {L : List St}, ¬ L.Pairwise (fun x y => x.1 ≠ y.1) → ∃ k y m z p, L = k ++ y :: m ++ z :: p ∧ y.1 = z.1
  | [], h => absurd List.Pairwise.nil h
  | s :: L, h => by
    by_cases h1 : ∃ z, z ∈ L ∧ s.1 = z.1
    · obtain ⟨z, hz, e⟩ := h1
      obtain ⟨m, p, rfl⟩ := List.append_of_mem hz
      exact ⟨[], s, m, z, p, rfl, e⟩
    · have h2 : ¬ L.Pairwise (fun x y => x.1 ≠ y.1) := fun h2 => h (List.pairwise_cons.2 ⟨fun z hz e => h1 ⟨z, hz, e⟩, h2⟩)
      obtain ⟨k, y, m, z, p, rfl, e⟩ := twice_split h2
      exact ⟨s :: k, y, m, z, p, rfl, e⟩
/-- a way in which a point stands twice: there is a shorter one to the same point -/
theorem Ways.shorter (hA : AbOk G Z Ab) {a s : St} {l : List St} (h : Ways G Z Ab a (s :: l)) (hn : ¬ (s :: l).Pairwise (fun x y => x.1 ≠ y.1)) : ∃ u l', Ways G Z Ab a ((s.1, u) :: l') ∧ l'.length < l.length := by
  obtain ⟨k, y, m, z, p, e, hyz⟩ := twice_split hn
  rw [e] at h
  rcases List.eq_nil_or_concat k with rfl | ⟨k, r, rfl⟩
  · injection e with e1 e2
    subst e1 e2
    have hs := Ways.split (s := s) (t := z) (l1 := m) (l2 := p) (by simpa using h)
    refine ⟨z.2, p, ?_, by simp; omega⟩
    rw [hyz]; exact hs.1
  · have hsub : ∀ {k : List St} {x : St} {q : List St}, Ways G Z Ab a (k ++ x :: q) → Ways G Z Ab a (x :: q) := by
      intro k x q hk
      cases k with
      | nil => exact hk
      | cons c k => exact (Ways.split (s := c) (t := x) (l1 := k) (l2 := q) hk).1
    have h' : Ways G Z Ab a (k ++ r :: y :: (m ++ z :: p)) := by simpa using h
    have hry := hsub h'
    have hyw : Ways G Z Ab a (y :: m ++ z :: p) := by cases hry with | more g1 _ => exact g1
    have hnx : Nx G Z Ab y r := by cases hry with | more _ g2 => exact g2
    have hs := Ways.split (s := y) (t := z) (l1 := m) (l2 := p) hyw
    obtain ⟨yc, yu⟩ := y
    obtain ⟨zc, zu⟩ := z
    simp only at hyz
    subst hyz
    have hcut := Go.cut hA hs.2 hnx
    have hnew := Ways.replace h' hs.1 hcut
    have e' : s :: l = k ++ r :: (yc, yu) :: (m ++ (yc, zu) :: p) := by rw [e]; simp
    cases k with
    | nil =>
      injection e' with e1 e2
      subst e1 e2
      exact ⟨s.2, (yc, zu) :: p, hnew, by simp; omega⟩
    | cons c k =>
      injection e' with e1 e2
      subst e1 e2
      exact ⟨s.2, k ++ r :: (yc, zu) :: p, hnew, by simp; omega⟩
/-- to each point that is come to there is a way that has no point twice, and none longer -/
theorem Ways.short (hA : AbOk G Z Ab) {a s : St} {l : List St} (h : Ways G Z Ab a (s :: l)) : ∃ u l', Ways G Z Ab a ((s.1, u) :: l') ∧ l'.length ≤ l.length ∧ ((s.1, u) :: l').Pairwise (fun x y => x.1 ≠ y.1) := by
  obtain ⟨n, hn⟩ : ∃ n, l.length ≤ n := ⟨_, Nat.le_refl _⟩
  induction n generalizing s l with
  | zero =>
    obtain rfl : l = [] := List.eq_nil_of_length_eq_zero (by omega)
    exact ⟨s.2, [], h, Nat.le_refl _, by simp⟩
  | succ n ih =>
    by_cases hp : (s :: l).Pairwise (fun x y => x.1 ≠ y.1)
    · exact ⟨s.2, l, h, Nat.le_refl _, hp⟩
    · obtain ⟨u, l', h1, h2⟩ := Ways.shorter hA h hp
      obtain ⟨v, l'', g1, g2, g3⟩ := ih h1 (by omega)
      exact ⟨v, l'', g1, by omega, g3⟩
end

/-! ### trails, point by point -/
section
variable (G : List (List Nat)) (Z Ab : Nat → Prop)
/-- may a trail go through p between q and n? -/
def Opn (q p n : Nat) : Prop := if q ∈ nth G p ∧ n ∈ nth G p then Ab p else ¬ Z p
/-- open trails from a point, each point once: the last one first -/
inductive Trl (a : Nat) : List Nat → Prop
  | one : Trl a [a]
  | two {n : Nat} : n < G.length → (n ∈ nth G a ∨ a ∈ nth G n) → n ∉ [a] → Trl a [n, a]
  | more {q p n : Nat} {l : List Nat} : Trl a (p :: q :: l) → n < G.length → (n ∈ nth G p ∨ p ∈ nth G n) → n ∉ p :: q :: l → Opn G Z Ab q p n → Trl a (n :: p :: q :: l)
end
section
variable {G : List (List Nat)} {Z Ab : Nat → Prop}
/-- no point is both parent and child of another -/
def OneWay (G : List (List Nat)) : Prop := ∀ p q, p < G.length → q < G.length → p ∈ nth G q → ¬ q ∈ nth G p
theorem Acyc.oneWay (h : Acyc G) : OneWay G := by
  obtain ⟨r, hr⟩ := h
  intro p q hp hq h1 h2
  have := hr q hq p h1
  have := hr p hp q h2
  omega
theorem Acyc.irr (h : Acyc G) {p : Nat} (hp : p < G.length) : ¬ p ∈ nth G p := by
  obtain ⟨r, hr⟩ := h
  intro h1
  have := hr p hp p h1
  omega
open Classical in
/-- the state that a trail has come to: its last step decides -/
noncomputable def stOf (G : List (List Nat)) : List Nat → Bool
  | n :: p :: _ => decide (n ∈ nth G p)
  | _ => true
theorem stOf_two (n p : Nat) (l : List Nat) : stOf G (n :: p :: l) = true ↔ n ∈ nth G p := by simp [stOf]
/-- an open trail is a way -/
theorem Trl.ways (ho : OneWay G) {a : Nat} (ha : a < G.length) (hz : ¬ Z a) {l : List Nat} (h : Trl G Z Ab a l) : ∃ k, Ways G Z Ab (a, true) k ∧ k.map (·.1) = l ∧ (∀ x ∈ l, x < G.length) ∧ ∃ t, k.head? = some t ∧ t.2 = stOf G l := by
  induction h with
  | one => exact ⟨[(a, true)], .one, rfl, by simpa using ha, _, rfl, rfl⟩
  | two hn hadj hnew =>
    rename_i n
    rcases hadj with h1 | h1
    · exact ⟨[(n, true), (a, true)], .more .one (.up (fun h => hz h.2) (.inl rfl) h1), rfl, by simp; exact ⟨hn, ha⟩, _, rfl, ((stOf_two n a []).2 h1).symm⟩
    · refine ⟨[(n, false), (a, true)], .more .one (.down hz hn h1), rfl, by simp; exact ⟨hn, ha⟩, _, rfl, ?_⟩
      have := ho a n ha hn h1
      rcases hs : stOf G [n, a] with _ | _
      · rfl
      · exact absurd ((stOf_two n a []).1 hs) this
  | more h1 hn hadj hnew hop ih =>
    rename_i q p n l
    obtain ⟨k, k1, k2, k3, t, k4, k5⟩ := ih
    cases k with
    | nil => cases k4
    | cons s k =>
      injection k4 with k4
      subst k4
      simp only [List.map_cons] at k2
      injection k2 with k2 k2'
      obtain ⟨sp, su⟩ := s
      simp only at k2 k5
      subst k2
      have hp : sp < G.length := k3 sp (by simp)
      have hq : q < G.length := k3 q (by simp)
      have hall : ∀ x ∈ n :: sp :: q :: l, x < G.length := by
        intro x hx
        rcases List.mem_cons.1 hx with rfl | hx
        · exact hn
        · exact k3 x hx
      have hstep : ∀ v : Bool, (v = true ↔ n ∈ nth G sp) → Nx G Z Ab (sp, su) (n, v) := by
        intro v hv
        unfold Opn at hop
        by_cases hnp : n ∈ nth G sp
        · obtain rfl : v = true := hv.2 hnp
          by_cases hqp : q ∈ nth G sp
          · rw [if_pos ⟨hqp, hnp⟩] at hop
            have : ¬ sp ∈ nth G q := ho q sp hq hp hqp
            have hsu : su = false := by
              rw [k5]
              rcases hs : stOf G (sp :: q :: l) with _ | _
              · rfl
              · exact absurd ((stOf_two sp q l).1 hs) this
            subst hsu
            exact .up (fun h => by cases h.1) (.inr hop) hnp
          · rw [if_neg (fun h => hqp h.1)] at hop
            have hsu : su = true := by
              rw [k5]
              refine (stOf_two sp q l).2 ?_
              cases h1 with
              | two _ hh _ => rcases hh with hh | hh; exact hh; exact absurd hh hqp
              | more _ _ hh _ _ => rcases hh with hh | hh; exact hh; exact absurd hh hqp
            subst hsu
            exact .up (fun h => hop h.2) (.inl rfl) hnp
        · have hv' : v = false := by
            rcases v with _ | _
            · rfl
            · exact absurd (hv.1 rfl) hnp
          subst hv'
          rw [if_neg (fun h => hnp h.2)] at hop
          rcases hadj with hh | hh
          · exact absurd hh hnp
          · exact .down hop hn hh
      refine ⟨(n, stOf G (n :: sp :: q :: l)) :: (sp, su) :: k, .more k1 (hstep _ (stOf_two n sp _)), by simp [k2'], hall, _, rfl, rfl⟩
/-- a way that has no point twice is an open trail -/
theorem Ways.trl (ho : OneWay G) {a : Nat} (ha : a < G.length) (hg : GoodG G) {k : List St} (h : Ways G Z Ab (a, true) k) (hp : k.Pairwise (fun x y => x.1 ≠ y.1)) : Trl G Z Ab a (k.map (·.1)) ∧ (∀ t, k.head? = some t → t.1 < G.length ∧ (1 < k.length → (t.2 = true ↔ ∃ s l, k = t :: s :: l ∧ t.1 ∈ nth G s.1))) := by
  induction h with
  | one => exact ⟨.one, by rintro t ht; injection ht with ht; subst ht; exact ⟨ha, fun h => by simp at h⟩⟩
  | more h1 hx ih =>
    rename_i s t l
    have hp' := List.pairwise_cons.1 hp
    obtain ⟨i1, i2⟩ := ih hp'.2
    obtain ⟨i3, i4⟩ := i2 s rfl
    obtain ⟨sp, su⟩ := s
    obtain ⟨tp, tu⟩ := t
    simp only at i3 i4
    have htl : tp < G.length := by
      cases hx with
      | up _ _ h3 => exact hg _ i3 _ h3
      | down _ h2 _ => exact h2
    have hadj : tp ∈ nth G sp ∨ sp ∈ nth G tp := by
      cases hx with
      | up _ _ h3 => exact .inl h3
      | down _ _ h3 => exact .inr h3
    have hnew : tp ∉ ((sp, su) :: l).map (·.1) := by
      intro hm
      obtain ⟨y, hy, e⟩ := List.mem_map.1 hm
      exact hp'.1 y hy e.symm
    have hdir : tu = true ↔ tp ∈ nth G sp := by
      cases hx with
      | up _ _ h3 => exact ⟨fun _ => h3, fun _ => rfl⟩
      | down _ h2 h3 => exact ⟨fun h => (by cases h), fun h => absurd h (ho sp tp i3 h2 h3)⟩
    refine ⟨?_, ?_⟩
    · cases l with
      | nil => exact (by cases h1; exact .two htl hadj (by simpa using hnew))
      | cons r l =>
        obtain ⟨rp, ru⟩ := r
        simp only [List.map_cons] at i1 hnew ⊢
        refine .more i1 htl hadj hnew ?_
        have hd := i4 (by simp)
        have hd' : su = true ↔ sp ∈ nth G rp := ⟨fun h => by
          obtain ⟨s', l', e, hh⟩ := hd.1 h
          injection e with e1 e2
          injection e2 with e2 e3
          subst e2
          exact hh, fun h => hd.2 ⟨_, _, rfl, h⟩⟩
        unfold Opn
        by_cases hc : rp ∈ nth G sp ∧ tp ∈ nth G sp
        · rw [if_pos hc]
          have hrl : rp < G.length := hg _ i3 _ hc.1
          have hsu : su = false := by
            rcases su with _ | _
            · rfl
            · exact absurd (hd'.1 rfl) (ho rp sp hrl i3 hc.1)
          subst hsu
          cases hx with
          | up _ h2 _ => rcases h2 with h2 | h2; cases h2; exact h2
          | down _ h2 h3 => exact absurd hc.2 (ho sp tp i3 h2 h3)
        · rw [if_neg hc]
          cases hx with
          | down h1 _ _ => exact h1
          | up h1 h2 h3 =>
            have hsu : su = true := by
              have : ¬ rp ∈ nth G sp := fun h => hc ⟨h, h3⟩
              have hrs : rp ∈ nth G sp ∨ sp ∈ nth G rp := by
                generalize List.map (fun x : St => x.1) l = l2 at i1
                cases i1 with
                | two _ hh _ => exact hh.symm
                | more _ _ hh _ _ => exact hh.symm
              rcases hrs with hrs | hrs
              · exact absurd hrs this
              · exact hd'.2 hrs
            exact fun hz => h1 ⟨hsu, hz⟩
    · rintro t ht
      injection ht with ht
      subst ht
      exact ⟨htl, fun _ => ⟨fun h => ⟨_, _, rfl, hdir.1 h⟩, fun ⟨s', l', e, hh⟩ => hdir.2 (by injection e with e1 e2; injection e2 with e2 e3; subst e2; exact hh)⟩⟩
/-- what a point tells something of: by simple open trails, by ways -/
theorem trl_iff (hA : AbOk G Z Ab) (ho : OneWay G) (hg : GoodG G) {a x : Nat} (ha : a < G.length) (hz : ¬ Z a) : (∃ l, Trl G Z Ab a (x :: l)) ↔ ∃ m u, Go (G := G) (Z := Z) (Ab := Ab) m (a, true) (x, u) := by
  constructor
  · rintro ⟨l, h⟩
    obtain ⟨k, k1, k2, _, t, k4, _⟩ := h.ways ho ha hz
    cases k with
    | nil => cases k4
    | cons s k =>
      simp only [List.map_cons] at k2
      injection k2 with e1 e2
      exact ⟨_, s.2, by rw [← e1]; exact k1.go⟩
  · rintro ⟨m, u, h⟩
    obtain ⟨l, h1, _⟩ := h.ways
    obtain ⟨v, l', g1, _, g3⟩ := Ways.short hA h1
    exact ⟨_, (g1.trl ho ha hg g3).1⟩
end
end Go.Proofs.Ytaibdlnolpbpiaa
