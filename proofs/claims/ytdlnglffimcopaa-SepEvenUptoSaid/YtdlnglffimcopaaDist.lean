/- Plain law: how far states lie from a point; a search backwards tells it; the way that goes on to the least point each time is the least of the shortest trails. Condition: no way leads back. -/
import Derived.Test.YtdlnglffimcopaaHuntAll
namespace Go.Proofs.Ytdlnglffimcopaa

section
variable (G : List (List Nat)) (Z Ab : Nat → Prop) (b : Nat)
/-- from a state to the point b in m steps, and in no fewer -/
def Far (m : Nat) (s : St) : Prop := (∃ u, Go (G := G) (Z := Z) (Ab := Ab) m s (b, u)) ∧ ∀ k, k < m → ∀ u, ¬ Go (G := G) (Z := Z) (Ab := Ab) k s (b, u)
/-- what a search backwards has found: each state's distance -/
structure FarOk (O : St → Option Nat) : Prop where
  far : ∀ s m, O s = some m → Far G Z Ab b m s
  all : ∀ s m u, Go (G := G) (Z := Z) (Ab := Ab) m s (b, u) → (O s).isSome = true
/-- .. on its way: the queue is q1 (d steps), then q2 (one more) -/
structure Bf (O : St → Option Nat) (q1 q2 : List St) (d : Nat) : Prop where
  far : ∀ s m, O s = some m → Far G Z Ab b m s
  tgt : ∀ u, O (b, u) = some 0
  v1 : ∀ s, s ∈ q1 → O s = some d
  v2 : ∀ s, s ∈ q2 → O s = some (d + 1)
  clo : ∀ s t m, O s = some m → s ∉ q1 → s ∉ q2 → Nx G Z Ab t s → (O t).isSome = true
  top : ∀ s m, O s = some m → m ≤ d + 1
  low : ∀ s m, O s = some m → m < d → s ∉ q1 ∧ s ∉ q2
/-- .. a state s taken off, its foregoers in `done` gone through -/
structure BfIn (O : St → Option Nat) (q1 q2 : List St) (d : Nat) (s : St) (done : List St) : Prop where
  far : ∀ s m, O s = some m → Far G Z Ab b m s
  tgt : ∀ u, O (b, u) = some 0
  cur : O s = some d
  v1 : ∀ s, s ∈ q1 → O s = some d
  v2 : ∀ s, s ∈ q2 → O s = some (d + 1)
  clo : ∀ x t m, O x = some m → x ∉ q1 → x ∉ q2 → x ≠ s → Nx G Z Ab t x → (O t).isSome = true
  top : ∀ s m, O s = some m → m ≤ d + 1
  dn : ∀ t, t ∈ done → (O t).isSome = true
end
section
variable {G : List (List Nat)} {Z Ab : Nat → Prop} {b : Nat} {O : St → Option Nat} {q1 q2 D : List St} {d : Nat} {s t : St}
theorem Go.pre {m : Nat} {s t r : St} (h : Nx G Z Ab s t) (g : Go (G := G) (Z := Z) (Ab := Ab) m t r) : Go (G := G) (Z := Z) (Ab := Ab) (m + 1) s r := by
  have := (Go.one h).trans g
  rwa [Nat.add_comm] at this
theorem Far.uniq {m k : Nat} (h : Far G Z Ab b m s) (h' : Far G Z Ab b k s) : m = k := by
  obtain ⟨⟨u, g⟩, n1⟩ := h
  obtain ⟨⟨v, g'⟩, n2⟩ := h'
  rcases Nat.lt_trichotomy m k with h1 | h1 | h1
  · exact absurd g (n2 m h1 u)
  · exact h1
  · exact absurd g' (n1 k h1 v)
theorem Far.zero (u : Bool) : Far G Z Ab b 0 (b, u) := ⟨⟨u, .refl _⟩, fun k hk => by omega⟩
theorem Far.zero_eq (h : Far G Z Ab b 0 s) : s.1 = b := by
  obtain ⟨⟨u, g⟩, _⟩ := h
  cases g
  rfl
/-- the next one of a state: no farther than one less -/
theorem Far.of_next {m : Nat} (h : Far G Z Ab b (m + 1) s) (hx : Nx G Z Ab s t) {k : Nat} (hg : ∃ u, Go (G := G) (Z := Z) (Ab := Ab) k t (b, u)) (hk : k ≤ m) : k = m ∧ Far G Z Ab b m t := by
  obtain ⟨u, g⟩ := hg
  have h1 := h.2 (k + 1)
  rcases Nat.lt_or_ge k m with h2 | h2
  · exact absurd (Go.pre hx g) (h1 (by omega) u)
  · obtain rfl : k = m := by omega
    exact ⟨rfl, ⟨u, g⟩, fun j hj v hv => h.2 (j + 1) (by omega) v (Go.pre hx hv)⟩
theorem Far.next {m : Nat} (h : Far G Z Ab b (m + 1) s) : ∃ t, Nx G Z Ab s t ∧ Far G Z Ab b m t := by
  obtain ⟨⟨u, g⟩, _⟩ := id h
  obtain ⟨t, hx, hg⟩ := g.head
  exact ⟨t, hx, (h.of_next hx ⟨u, hg⟩ (Nat.le_refl _)).2⟩
theorem Bf.begin (h1 : ∀ u, O (b, u) = some 0) (h2 : ∀ s m, O s = some m → s.1 = b) : Bf G Z Ab b O [(b, false), (b, true)] [] 0 := by
  have h0 : ∀ s m, O s = some m → m = 0 ∧ ∃ u, s = (b, u) := fun s m e => by
    have := h2 s m e
    obtain ⟨p, u⟩ := s
    subst this
    rw [h1] at e; injection e with e
    exact ⟨e.symm, u, rfl⟩
  refine ⟨fun s m e => ?_, h1, fun s hs => ?_, by simp, fun s t m e n1 _ _ => ?_, fun s m e => by have := (h0 s m e).1; omega, fun s m _ h => by omega⟩
  · obtain ⟨rfl, u, rfl⟩ := h0 s m e
    exact Far.zero u
  · simp at hs; rcases hs with rfl | rfl <;> exact h1 _
  · obtain ⟨_, u, rfl⟩ := h0 s m e
    cases u <;> simp at n1
/-- the first one is taken off -/
theorem Bf.pop (h : Bf G Z Ab b O (s :: q1) q2 d) : BfIn G Z Ab b O q1 q2 d s [] :=
  ⟨h.far, h.tgt, h.v1 s (by simp), fun x hx => h.v1 x (by simp [hx]), h.v2, fun x t m e n1 n2 hne hx => h.clo x t m e (by simp [hne, n1]) n2 hx, h.top, by simp⟩
theorem Bf.turn (h : Bf G Z Ab b O [] q2 d) : Bf G Z Ab b O q2 [] (d + 1) :=
  ⟨h.far, h.tgt, h.v2, by simp, fun x t m e n1 _ hx => h.clo x t m e (by simp) n1 hx, fun s m e => by have := h.top s m e; omega, fun x m e hm => ⟨fun hx => by have := h.v2 x hx; rw [e] at this; injection this; omega, by simp⟩⟩
/-- all that come to the point in at most d steps have been found -/
theorem BfIn.near (h : BfIn G Z Ab b O q1 q2 d s D) : ∀ k t u, k ≤ d → Go (G := G) (Z := Z) (Ab := Ab) k t (b, u) → (O t).isSome = true
  | 0, t, u, _, g => by cases g; rw [h.tgt]; rfl
  | k + 1, t, u, hk, g => by
    obtain ⟨r, hx, hg⟩ := g.head
    have h1 := h.near k r u (by omega) hg
    obtain ⟨m, hm⟩ := Option.isSome_iff_exists.1 h1
    have h2 : m ≤ k := by
      rcases Nat.lt_or_ge k m with h3 | h3
      · exact absurd hg ((h.far r m hm).2 k h3 u)
      · exact h3
    refine h.clo r t m hm (fun hr => ?_) (fun hr => ?_) (fun hr => ?_) hx
    · have := h.v1 r hr; rw [hm] at this; injection this; omega
    · have := h.v2 r hr; rw [hm] at this; injection this; omega
    · subst hr; have := h.cur; rw [hm] at this; injection this; omega
theorem BfIn.old (h : BfIn G Z Ab b O q1 q2 d s D) (ht : (O t).isSome = true) : BfIn G Z Ab b O q1 q2 d s (D ++ [t]) :=
  ⟨h.far, h.tgt, h.cur, h.v1, h.v2, h.clo, h.top, fun x hx => by rcases List.mem_append.1 hx with hx | hx; exact h.dn x hx; rw [List.mem_singleton] at hx; subst hx; exact ht⟩
theorem BfIn.new (h : BfIn G Z Ab b O q1 q2 d s D) (ht : O t = none) (hx : Nx G Z Ab t s) {O' : St → Option Nat} (hO : ∀ x, O' x = if x = t then some (d + 1) else O x) : BfIn G Z Ab b O' q1 (q2 ++ [t]) d s (D ++ [t]) := by
  have hold : ∀ x m, O x = some m → x ≠ t := fun x m e hx => by subst hx; rw [ht] at e; cases e
  have hget : ∀ x m, O x = some m → O' x = some m := fun x m e => by rw [hO, if_neg (hold x m e)]; exact e
  have hsome : ∀ x, (O x).isSome = true → (O' x).isSome = true := fun x e => by
    obtain ⟨m, hm⟩ := Option.isSome_iff_exists.1 e
    rw [hget x m hm]; rfl
  have hcase : ∀ x m, O' x = some m → (x = t ∧ m = d + 1) ∨ (x ≠ t ∧ O x = some m) := fun x m e => by
    rw [hO] at e
    by_cases h1 : x = t
    · rw [if_pos h1] at e; injection e with e; exact .inl ⟨h1, e.symm⟩
    · rw [if_neg h1] at e; exact .inr ⟨h1, e⟩
  refine ⟨fun x m e => ?_, fun u => hget _ _ (h.tgt u), hget _ _ h.cur, fun x hx => hget _ _ (h.v1 x hx), fun x hx => ?_, fun x y m e n1 n2 hne hxy => ?_, fun x m e => ?_, fun x hx => ?_⟩
  · rcases hcase x m e with ⟨rfl, rfl⟩ | ⟨_, e⟩
    · obtain ⟨⟨u, g⟩, _⟩ := h.far s d h.cur
      refine ⟨⟨u, Go.pre hx g⟩, fun k hk v hv => ?_⟩
      have := h.near k x v (by omega) hv
      rw [ht] at this; cases this
    · exact h.far x m e
  · rcases List.mem_append.1 hx with hx | hx
    · exact hget _ _ (h.v2 x hx)
    · rw [List.mem_singleton] at hx; subst hx; rw [hO, if_pos rfl]
  · rcases hcase x m e with ⟨rfl, _⟩ | ⟨_, e⟩
    · exact absurd (by simp) n2
    · exact hsome y (h.clo x y m e n1 (fun h2 => n2 (by simp [h2])) hne hxy)
  · rcases hcase x m e with ⟨_, rfl⟩ | ⟨_, e⟩
    · exact Nat.le_refl _
    · exact h.top x m e
  · rcases List.mem_append.1 hx with hx | hx
    · exact hsome x (h.dn x hx)
    · rw [List.mem_singleton] at hx; subst hx; rw [hO, if_pos rfl]; rfl
/-- all of its foregoers are gone through -/
theorem BfIn.done (h : BfIn G Z Ab b O q1 q2 d s D) (hd : ∀ t, Nx G Z Ab t s → t ∈ D) : Bf G Z Ab b O q1 q2 d :=
  ⟨h.far, h.tgt, h.v1, h.v2, fun x t m e n1 n2 hx => by
    by_cases hxs : x = s
    · subst hxs; exact h.dn t (hd t hx)
    · exact h.clo x t m e n1 n2 hxs hx, h.top, fun x m e hm => ⟨fun hx => by have := h.v1 x hx; rw [e] at this; injection this; omega, fun hx => by have := h.v2 x hx; rw [e] at this; injection this; omega⟩⟩
theorem Bf.all (h : Bf G Z Ab b O [] [] d) : FarOk G Z Ab b O := by
  refine ⟨h.far, fun s m u g => ?_⟩
  induction m generalizing s with
  | zero => cases g; rw [h.tgt]; rfl
  | succ m ih =>
    obtain ⟨t, hx, hg⟩ := g.head
    obtain ⟨k, hk⟩ := Option.isSome_iff_exists.1 (ih t hg)
    exact h.clo t s k hk (by simp) (by simp) hx
theorem FarOk.iff (h : FarOk G Z Ab b O) {m : Nat} : O s = some m ↔ Far G Z Ab b m s := by
  refine ⟨h.far s m, fun hf => ?_⟩
  obtain ⟨⟨u, g⟩, _⟩ := id hf
  obtain ⟨k, hk⟩ := Option.isSome_iff_exists.1 (h.all s m u g)
  rw [hk, (h.far s k hk).uniq hf]
/-- a state's distance is below the number of points -/
theorem Nx.lt (hg : GoodG G) (h : Nx G Z Ab s t) : s.1 < G.length ∧ t.1 < G.length := by
  cases h with
  | up h1 h2 h3 =>
    rename_i p u q
    have hp : p < G.length := by
      rcases Nat.lt_or_ge p G.length with h4 | h4
      · exact h4
      · rw [show nth G p = [] by simp [nth, List.getD, List.getElem?_eq_none h4]; rfl] at h3; simp at h3
    exact ⟨hp, hg p hp q h3⟩
  | down h1 h2 h3 => exact ⟨hg _ h2 _ h3, h2⟩
theorem Ways.lt (hg : GoodG G) {a : St} (ha : a.1 < G.length) {l : List St} (h : Ways G Z Ab a l) : ∀ x, x ∈ l → x.1 < G.length := by
  induction h with
  | one => intro x hx; rw [List.mem_singleton] at hx; subst hx; exact ha
  | more _ hx ih =>
    intro x hm
    rcases List.mem_cons.1 hm with rfl | hm
    · exact (Nx.lt hg hx).2
    · exact ih x hm
theorem Far.nodup (hA : AbOk G Z Ab) {a : St} {m : Nat} (h : Far G Z Ab b m a) {l : List St} (hw : Ways G Z Ab a (s :: l)) (hl : l.length = m) (hs : s.1 = b) : (s :: l).Pairwise (fun x y => x.1 ≠ y.1) := by
  apply Classical.byContradiction
  intro hn
  obtain ⟨u, l', h1, h2⟩ := hw.shorter hA hn
  rw [hs] at h1
  exact h.2 l'.length (by omega) u h1.go
theorem Far.lt (hA : AbOk G Z Ab) (hg : GoodG G) {a : St} (ha : a.1 < G.length) {m : Nat} (h : Far G Z Ab b m a) : m < G.length := by
  obtain ⟨⟨u, g⟩, _⟩ := id h
  obtain ⟨l, hw, hl⟩ := g.ways
  have hp := h.nodup hA hw hl rfl
  have hn : (((b, u) :: l).map (·.1)).Nodup := by
    rw [List.nodup_iff_pairwise_ne, List.pairwise_map]; exact hp
  have := nodup_lt_length hn (n := G.length) (fun x hx => by
    obtain ⟨y, hy, rfl⟩ := List.mem_map.1 hx
    exact hw.lt hg ha y hy)
  simp at this
  omega
end

/-! ### the way that goes on to the least point -/
section
variable (G : List (List Nat)) (Z Ab : Nat → Prop) (b : Nat)
/-- t is the least next one of s that is m steps away -/
def Bst (s : St) (m : Nat) (t : St) : Prop := Nx G Z Ab s t ∧ Far G Z Ab b m t ∧ ∀ r, Nx G Z Ab s r → Far G Z Ab b m r → t.1 ≤ r.1
/-- a way whose each step is the least: the last one first; m steps to go -/
inductive Grd (a : St) : Nat → List St → Prop
  | one {m : Nat} : Far G Z Ab b m a → Grd a m [a]
  | more {m : Nat} {s t : St} {l : List St} : Grd a (m + 1) (s :: l) → Bst G Z Ab b s m t → Grd a m (t :: s :: l)
/-- .. forwards: the points behind s -/
inductive GrF : Nat → St → List Nat → Prop
  | nil {s : St} : s.1 = b → GrF 0 s []
  | cons {m : Nat} {s t : St} {l : List Nat} : Bst G Z Ab b s m t → GrF m t l → GrF (m + 1) s (t.1 :: l)
/-- any way, forwards -/
inductive WyF : Nat → St → List Nat → Prop
  | nil {s : St} : s.1 = b → WyF 0 s []
  | cons {m : Nat} {s t : St} {l : List Nat} : Nx G Z Ab s t → WyF m t l → WyF (m + 1) s (t.1 :: l)
end
section
variable {G : List (List Nat)} {Z Ab : Nat → Prop} {b : Nat} {a s t : St} {m : Nat} {l : List St}
theorem Grd.far (h : Grd G Z Ab b a m (s :: l)) : Far G Z Ab b m s := by
  cases h with
  | one h => exact h
  | more _ h => exact h.2.1
theorem Grd.ways (h : Grd G Z Ab b a m l) : Ways G Z Ab a l := by
  induction h with
  | one => exact .one
  | more _ hb ih => exact .more ih hb.1
theorem Grd.start (h : Grd G Z Ab b a m (s :: l)) : Far G Z Ab b (m + l.length) a := by
  generalize hk : s :: l = k at h
  induction h generalizing s l with
  | one h => injection hk with e1 e2; subst e1 e2; exact h
  | more h1 _ ih =>
    injection hk with e1 e2
    subst e1 e2
    have := ih rfl
    rw [List.length_cons]
    rwa [show ∀ a b : Nat, a + (b + 1) = a + 1 + b from by omega]
theorem Grd.fwd {r : List Nat} (h : Grd G Z Ab b a m (s :: l)) (hr : GrF G Z Ab b m s r) : ∃ q, GrF G Z Ab b (m + l.length) a q ∧ a.1 :: q = ((s :: l).map (·.1)).reverse ++ r := by
  generalize hk : s :: l = k at h
  induction h generalizing s l r with
  | one h => injection hk with e1 e2; subst e1 e2; exact ⟨r, hr, by simp⟩
  | more h1 hb ih =>
    injection hk with e1 e2
    subst e1 e2
    obtain ⟨q, h2, h3⟩ := ih (.cons hb hr) rfl
    refine ⟨q, ?_, ?_⟩
    · rw [List.length_cons, show ∀ a b : Nat, a + (b + 1) = a + 1 + b from by omega]; exact h2
    · rw [h3]; simp
theorem Ways.fwd {r : List Nat} (h : Ways G Z Ab a (s :: l)) (hr : WyF G Z Ab b m s r) : ∃ q, WyF G Z Ab b (m + l.length) a q ∧ a.1 :: q = ((s :: l).map (·.1)).reverse ++ r := by
  generalize hk : s :: l = k at h
  induction h generalizing s l r m with
  | one => injection hk with e1 e2; subst e1 e2; exact ⟨r, hr, by simp⟩
  | more h1 hb ih =>
    injection hk with e1 e2
    subst e1 e2
    obtain ⟨q, h2, h3⟩ := ih (.cons hb hr) rfl
    refine ⟨q, ?_, ?_⟩
    · rw [List.length_cons, show ∀ a b : Nat, a + (b + 1) = a + 1 + b from by omega]; exact h2
    · rw [h3]; simp
theorem WyF.go {l : List Nat} (h : WyF G Z Ab b m s l) : ∃ u, Go (G := G) (Z := Z) (Ab := Ab) m s (b, u) := by
  induction h with
  | nil h => rename_i s; subst h; exact ⟨s.2, .refl _⟩
  | cons hx _ ih => obtain ⟨u, g⟩ := ih; exact ⟨u, Go.pre hx g⟩
theorem WyF.length {l : List Nat} (h : WyF G Z Ab b m s l) : l.length = m := by
  induction h with
  | nil => rfl
  | cons _ _ ih => simp [ih]
theorem GrF.length {l : List Nat} (h : GrF G Z Ab b m s l) : l.length = m := by
  induction h with
  | nil => rfl
  | cons _ _ ih => simp [ih]
/-- the next state is known by its point -/
theorem Nx.same (ho : OneWay G) (hg : GoodG G) {r : St} (h1 : Nx G Z Ab s t) (h2 : Nx G Z Ab s r) (h : t.1 = r.1) : t = r := by
  have hl := Nx.lt hg h1
  cases h1 with
  | up _ _ g1 =>
    cases h2 with
    | up _ _ g2 => simp only at h; subst h; rfl
    | down _ g3 g4 => simp only at h hl; subst h; exact absurd g1 (ho _ _ hl.1 hl.2 g4)
  | down _ g3 g4 =>
    cases h2 with
    | up _ _ g2 => simp only at h hl; subst h; exact absurd g2 (ho _ _ hl.1 hl.2 g4)
    | down _ _ _ => simp only at h; subst h; rfl
theorem GrF.least (ho : OneWay G) (hg : GoodG G) {l l' : List Nat} (h : GrF G Z Ab b m s l) (hf : Far G Z Ab b m s) (h' : WyF G Z Ab b m s l') : lexL l' l = false := by
  induction h generalizing l' with
  | nil => cases h'; rfl
  | @cons m s t l hb _ ih =>
    cases h' with
    | @cons _ _ t' l' hx hw =>
      have hft := (hf.of_next hx hw.go (Nat.le_refl _)).2
      have hle := hb.2.2 _ hx hft
      unfold lexL
      by_cases e : t'.1 = t.1
      · rw [if_pos e]
        have := Nx.same ho hg hx hb.1 e
        subst this
        exact ih hft hw
      · rw [if_neg e, decide_eq_false_iff_not]
        omega
/-- of the trails from a to b that are open and do not begin or end at what is given: none, or the least of the shortest -/
structure BestT (G : List (List Nat)) (Z Ab : Nat → Prop) (a b : Nat) (o : Option (List Nat)) : Prop where
  bn : o = none → ∀ l, ¬ Z a → Trl G Z Ab a (b :: l) → Z b
  bs : ∀ t, o = some t → ¬ Z a ∧ ¬ Z b ∧ (∃ l, Trl G Z Ab a (b :: l) ∧ t = (b :: l).reverse) ∧ ∀ l, Trl G Z Ab a (b :: l) → lessL (b :: l).reverse t = false
theorem lexL_total : ∀ {x y : List Nat}, x.length = y.length → lexL x y = false → lexL y x = false → x = y
  | [], [], _, _, _ => rfl
  | [], _ :: _, h, _, _ => by simp at h
  | _ :: _, [], h, _, _ => by simp at h
  | p :: x, q :: y, h, h1, h2 => by
    unfold lexL at h1 h2
    by_cases e : p = q
    · subst e
      rw [if_pos rfl] at h1 h2
      rw [lexL_total (by simpa using h) h1 h2]
    · rw [if_neg e, decide_eq_false_iff_not] at h1
      rw [if_neg (fun h => e h.symm), decide_eq_false_iff_not] at h2
      omega
theorem lessL_total {x y : List Nat} (h1 : lessL x y = false) (h2 : lessL y x = false) : x = y := by
  unfold lessL at h1 h2
  by_cases e : x.length = y.length
  · rw [if_pos e] at h1; rw [if_pos e.symm] at h2; exact lexL_total e h1 h2
  · rw [if_neg e, decide_eq_false_iff_not] at h1
    rw [if_neg (fun h => e h.symm), decide_eq_false_iff_not] at h2
    omega
theorem BestT.uniq {Z Ab : Nat → Prop} {a b : Nat} {o o' : Option (List Nat)} (h : BestT G Z Ab a b o) (h' : BestT G Z Ab a b o') : o = o' := by
  cases o with
  | none =>
    cases o' with
    | none => rfl
    | some t =>
      obtain ⟨h1, h2, ⟨l, h3, _⟩, _⟩ := h'.bs t rfl
      exact absurd (h.bn rfl l h1 h3) h2
  | some t =>
    obtain ⟨h1, h2, ⟨l, h3, h4⟩, h5⟩ := h.bs t rfl
    cases o' with
    | none => exact absurd (h'.bn rfl l h1 h3) h2
    | some t' =>
      obtain ⟨_, _, ⟨l', g3, g4⟩, g5⟩ := h'.bs t' rfl
      rw [lessL_total (x := t) (y := t') (by rw [h4]; exact g5 l h3) (by rw [g4]; exact h5 l' g3)]
theorem Hst.best {dst : Int} {Z Ab : Nat → Prop} {a b : Nat} {L : List Bool} {o : Option (List Nat)} (h : Hst dst Z (fun l' => ¬ Z a ∧ Trl G Z Ab a l') L o) (hb : (b : Int) = dst) : BestT G Z Ab a b o := by
  refine ⟨fun e l h1 h2 => ?_, fun t e => ?_⟩
  · apply Classical.byContradiction
    intro hz
    exact h.bnone e b l ⟨h1, h2⟩ hz hb
  · obtain ⟨⟨x, l, ⟨h1, h2⟩, h3, h4, h5⟩, h6⟩ := h.bsome t e
    have hx : x = b := by omega
    subst hx
    exact ⟨h1, h3, ⟨l, h2, h5⟩, fun l' hl' => h6 x l' ⟨h1, hl'⟩ h3 h4⟩
/-- the way that was gone is the best trail -/
theorem Grd.best (hA : AbOk G Z Ab) (ho : OneWay G) (hg : GoodG G) {a b : Nat} (ha : a < G.length) (hza : ¬ Z a) (hzb : ¬ Z b) {s : St} {l : List St} (h : Grd G Z Ab b (a, true) 0 (s :: l)) : BestT G Z Ab a b (some ((s :: l).map (·.1)).reverse) := by
  refine ⟨fun e => (by cases e), fun t e => ?_⟩
  injection e with e
  subst e
  have hs : s.1 = b := h.far.zero_eq
  have hfa := h.start
  have hp := hfa.nodup hA h.ways (by omega) hs
  have htr := (h.ways.trl ho ha hg hp).1
  refine ⟨hza, hzb, ⟨l.map (·.1), by simpa [hs] using htr, by simp [hs]⟩, fun l' hl' => ?_⟩
  obtain ⟨q, hq, hqe⟩ := h.fwd (r := []) (.nil hs)
  obtain ⟨k, hk, hk2, _, _, _, _⟩ := hl'.ways ho ha hza
  cases k with
  | nil => simp at hk2
  | cons s' k =>
    simp only [List.map_cons] at hk2
    injection hk2 with e1 e2
    obtain ⟨q', hq', hqe'⟩ := hk.fwd (m := 0) (r := []) (.nil e1)
    have hlen : l.length ≤ k.length := by
      rcases Nat.lt_or_ge k.length l.length with h1 | h1
      · have hgo := hk.go
        obtain ⟨p, u⟩ := s'
        simp only at e1
        subst e1
        exact absurd hgo (hfa.2 k.length (by omega) u)
      · exact h1
    have hl2 : k.length = l'.length := by rw [← e2]; simp
    rw [← e1, ← e2]
    rw [List.append_nil] at hqe hqe'
    have e3 : (s'.1 :: List.map (fun x : St => x.1) k).reverse = a :: q' := by rw [hqe']; rfl
    rw [e3, ← hqe]
    unfold lessL
    have hq1 := hq.length
    have hq2 := hq'.length
    by_cases he : k.length = l.length
    · rw [if_pos (by simp; omega)]
      unfold lexL
      rw [if_pos rfl]
      rw [he] at hq'
      exact hq.least ho hg hfa hq'
    · rw [if_neg (by simp; omega), decide_eq_false_iff_not]
      simp
      omega
/-- no way: no trail -/
theorem BestT.none_of (ho : OneWay G) {Z Ab : Nat → Prop} {a b : Nat} (ha : a < G.length) (h : ¬ Z a → ¬ Z b → ∀ m u, ¬ Go (G := G) (Z := Z) (Ab := Ab) m (a, true) (b, u)) : BestT G Z Ab a b none := by
  refine ⟨fun _ l h1 h2 => ?_, fun t e => (by cases e)⟩
  apply Classical.byContradiction
  intro hz
  obtain ⟨k, hk, hk2, _, _, _, _⟩ := h2.ways ho ha h1
  cases k with
  | nil => simp at hk2
  | cons s' k =>
    simp only [List.map_cons] at hk2
    injection hk2 with e1 e2
    obtain ⟨p, u⟩ := s'
    simp only at e1
    subst e1
    exact h h1 hz _ u hk.go
end
end Go.Proofs.Ytdlnglffimcopaa
