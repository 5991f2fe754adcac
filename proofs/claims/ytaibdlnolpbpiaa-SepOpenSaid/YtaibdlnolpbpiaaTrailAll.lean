/- Joined by program out of: Dist, Heads, FarClo, FarLaw, TrailClo, Far, RefTrail, Trail. What each says stands at its own head. -/
import Derived.Test.YtaibdlnolpbpiaaHuntAll
import Derived.Test.YtaibdlnolpbpiaaFlowAll
import Derived.WideKeyEntry
import Derived.Deep.LoopGhost
import Derived.Deep.CutRange
/- Plain law: how far states lie from a point; a search backwards tells it; the way that goes on to the least point each time is the least of the shortest trails. Condition: no way leads back. -/
namespace Go.Proofs.Ytaibdlnolpbpiaa

section
variable (G : List (List Nat)) (Z Ab : Nat → Prop) (b : Nat)
/-- from a state to the point b in m steps, and in no fewer -/
def Far (m : Nat) (s : St) : Prop := (∃ u, Go (G := G) (Z := Z) (Ab := Ab) m s (b, u)) ∧ ∀ k, k < m → ∀ u, ¬ Go (G := G) (Z := Z) (Ab := Ab) k s (b, u)
/-- what a search backwards has found: each state's distance -/
structure FarOk (O : St → Option Nat) : Prop where
  far : ∀ s m, O s = some m → Far G Z Ab b m s
  all : ∀ s m u, Go (G := G) (Z := Z) (Ab := Ab) m s (b, u) → (O s).isSome = true
/-- .. on its way: the queue is q1 (d steps), then q2 (one more) -/
structure Bf (O : St → Option Nat) (q1 q2 : List St) (d : Nat) : Prop where
  far : ∀ s m, O s = some m → Far G Z Ab b m s
  tgt : ∀ u, O (b, u) = some 0
  v1 : ∀ s, s ∈ q1 → O s = some d
  v2 : ∀ s, s ∈ q2 → O s = some (d + 1)
  clo : ∀ s t m, O s = some m → s ∉ q1 → s ∉ q2 → Nx G Z Ab t s → (O t).isSome = true
  top : ∀ s m, O s = some m → m ≤ d + 1
  low : ∀ s m, O s = some m → m < d → s ∉ q1 ∧ s ∉ q2
/-- .. a state s taken off, its foregoers in `done` gone through -/
structure BfIn (O : St → Option Nat) (q1 q2 : List St) (d : Nat) (s : St) (done : List St) : Prop where
  far : ∀ s m, O s = some m → Far G Z Ab b m s
  tgt : ∀ u, O (b, u) = some 0
  cur : O s = some d
  v1 : ∀ s, s ∈ q1 → O s = some d
  v2 : ∀ s, s ∈ q2 → O s = some (d + 1)
  clo : ∀ x t m, O x = some m → x ∉ q1 → x ∉ q2 → x ≠ s → Nx G Z Ab t x → (O t).isSome = true
  top : ∀ s m, O s = some m → m ≤ d + 1
  dn : ∀ t, t ∈ done → (O t).isSome = true
end
section
variable {G : List (List Nat)} {Z Ab : Nat → Prop} {b : Nat} {O : St → Option Nat} {q1 q2 D : List St} {d : Nat} {s t : St}
theorem Go.pre {m : Nat} {s t r : St} (h : Nx G Z Ab s t) (g : Go (G := G) (Z := Z) (Ab := Ab) m t r) : Go (G := G) (Z := Z) (Ab := Ab) (m + 1) s r := by
  have := (Go.one h).trans g
  rwa [Nat.add_comm] at this
theorem Far.uniq {m k : Nat} (h : Far G Z Ab b m s) (h' : Far G Z Ab b k s) : m = k := by
  obtain ⟨⟨u, g⟩, n1⟩ := h
  obtain ⟨⟨v, g'⟩, n2⟩ := h'
  rcases Nat.lt_trichotomy m k with h1 | h1 | h1
  · exact absurd g (n2 m h1 u)
  · exact h1
  · exact absurd g' (n1 k h1 v)
theorem Far.zero (u : Bool) : Far G Z Ab b 0 (b, u) := ⟨⟨u, .refl _⟩, fun k hk => by omega⟩
theorem Far.zero_eq (h : Far G Z Ab b 0 s) : s.1 = b := by
  obtain ⟨⟨u, g⟩, _⟩ := h
  cases g
  rfl
/-- the next one of a state: no farther than one less -/
theorem Far.of_next {m : Nat} (h : Far G Z Ab b (m + 1) s) (hx : Nx G Z Ab s t) {k : Nat} (hg : ∃ u, Go (G := G) (Z := Z) (Ab := Ab) k t (b, u)) (hk : k ≤ m) : k = m ∧ Far G Z Ab b m t := by
  obtain ⟨u, g⟩ := hg
  have h1 := h.2 (k + 1)
  rcases Nat.lt_or_ge k m with h2 | h2
  · exact absurd (Go.pre hx g) (h1 (by omega) u)
  · obtain rfl : k = m := by omega
    exact ⟨rfl, ⟨u, g⟩, fun j hj v hv => h.2 (j + 1) (by omega) v (Go.pre hx hv)⟩
theorem Far.next {m : Nat} (h : Far G Z Ab b (m + 1) s) : ∃ t, Nx G Z Ab s t ∧ Far G Z Ab b m t := by
  obtain ⟨⟨u, g⟩, _⟩ := id h
  obtain ⟨t, hx, hg⟩ := g.head
  exact ⟨t, hx, (h.of_next hx ⟨u, hg⟩ (Nat.le_refl _)).2⟩
theorem Bf.begin (h1 : ∀ u, O (b, u) = some 0) (h2 : ∀ s m, O s = some m → s.1 = b) : Bf G Z Ab b O [(b, false), (b, true)] [] 0 := by
  have h0 : ∀ s m, O s = some m → m = 0 ∧ ∃ u, s = (b, u) := fun s m e => by
    have := h2 s m e
    obtain ⟨p, u⟩ := s
    subst this
    rw [h1] at e; injection e with e
    exact ⟨e.symm, u, rfl⟩
  refine ⟨fun s m e => ?_, h1, fun s hs => ?_, by simp, fun s t m e n1 _ _ => ?_, fun s m e => by have := (h0 s m e).1; omega, fun s m _ h => by omega⟩
  · obtain ⟨rfl, u, rfl⟩ := h0 s m e
    exact Far.zero u
  · simp at hs; rcases hs with rfl | rfl <;> exact h1 _
  · obtain ⟨_, u, rfl⟩ := h0 s m e
    cases u <;> simp at n1
/-- the first one is taken off -/
theorem Bf.pop (h : Bf G Z Ab b O (s :: q1) q2 d) : BfIn G Z Ab b O q1 q2 d s [] :=
  ⟨h.far, h.tgt, h.v1 s (by simp), fun x hx => h.v1 x (by simp [hx]), h.v2, fun x t m e n1 n2 hne hx => h.clo x t m e (by simp [hne, n1]) n2 hx, h.top, by simp⟩
theorem Bf.turn (h : Bf G Z Ab b O [] q2 d) : Bf G Z Ab b O q2 [] (d + 1) :=
  ⟨h.far, h.tgt, h.v2, by simp, fun x t m e n1 _ hx => h.clo x t m e (by simp) n1 hx, fun s m e => by have := h.top s m e; omega, fun x m e hm => ⟨fun hx => by have := h.v2 x hx; rw [e] at this; injection this; omega, by simp⟩⟩
/-- all that come to the point in at most d steps have been found -/
theorem BfIn.near (h : BfIn G Z Ab b O q1 q2 d s D) : ∀ k t u, k ≤ d → Go (G := G) (Z := Z) (Ab := Ab) k t (b, u) → (O t).isSome = true
  | 0, t, u, _, g => by cases g; rw [h.tgt]; rfl
  | k + 1, t, u, hk, g => by
    obtain ⟨r, hx, hg⟩ := g.head
    have h1 := h.near k r u (by omega) hg
    obtain ⟨m, hm⟩ := Option.isSome_iff_exists.1 h1
    have h2 : m ≤ k := by
      rcases Nat.lt_or_ge k m with h3 | h3
      · exact absurd hg ((h.far r m hm).2 k h3 u)
      · exact h3
    refine h.clo r t m hm (fun hr => ?_) (fun hr => ?_) (fun hr => ?_) hx
    · have := h.v1 r hr; rw [hm] at this; injection this; omega
    · have := h.v2 r hr; rw [hm] at this; injection this; omega
    · subst hr; have := h.cur; rw [hm] at this; injection this; omega
theorem BfIn.old (h : BfIn G Z Ab b O q1 q2 d s D) (ht : (O t).isSome = true) : BfIn G Z Ab b O q1 q2 d s (D ++ [t]) :=
  ⟨h.far, h.tgt, h.cur, h.v1, h.v2, h.clo, h.top, fun x hx => by rcases List.mem_append.1 hx with hx | hx; exact h.dn x hx; rw [List.mem_singleton] at hx; subst hx; exact ht⟩
theorem BfIn.new (h : BfIn G Z Ab b O q1 q2 d s D) (ht : O t = none) (hx : Nx G Z Ab t s) {O' : St → Option Nat} (hO : ∀ x, O' x = if x = t then some (d + 1) else O x) : BfIn G Z Ab b O' q1 (q2 ++ [t]) d s (D ++ [t]) := by
  have hold : ∀ x m, O x = some m → x ≠ t := fun x m e hx => by subst hx; rw [ht] at e; cases e
  have hget : ∀ x m, O x = some m → O' x = some m := fun x m e => by rw [hO, if_neg (hold x m e)]; exact e
  have hsome : ∀ x, (O x).isSome = true → (O' x).isSome = true := fun x e => by
    obtain ⟨m, hm⟩ := Option.isSome_iff_exists.1 e
    rw [hget x m hm]; rfl
  have hcase : ∀ x m, O' x = some m → (x = t ∧ m = d + 1) ∨ (x ≠ t ∧ O x = some m) := fun x m e => by
    rw [hO] at e
    by_cases h1 : x = t
    · rw [if_pos h1] at e; injection e with e; exact .inl ⟨h1, e.symm⟩
    · rw [if_neg h1] at e; exact .inr ⟨h1, e⟩
  refine ⟨fun x m e => ?_, fun u => hget _ _ (h.tgt u), hget _ _ h.cur, fun x hx => hget _ _ (h.v1 x hx), fun x hx => ?_, fun x y m e n1 n2 hne hxy => ?_, fun x m e => ?_, fun x hx => ?_⟩
  · rcases hcase x m e with ⟨rfl, rfl⟩ | ⟨_, e⟩
    · obtain ⟨⟨u, g⟩, _⟩ := h.far s d h.cur
      refine ⟨⟨u, Go.pre hx g⟩, fun k hk v hv => ?_⟩
      have := h.near k x v (by omega) hv
      rw [ht] at this; cases this
    · exact h.far x m e
  · rcases List.mem_append.1 hx with hx | hx
    · exact hget _ _ (h.v2 x hx)
    · rw [List.mem_singleton] at hx; subst hx; rw [hO, if_pos rfl]
  · rcases hcase x m e with ⟨rfl, _⟩ | ⟨_, e⟩
    · exact absurd (by simp) n2
    · exact hsome y (h.clo x y m e n1 (fun h2 => n2 (by simp [h2])) hne hxy)
  · rcases hcase x m e with ⟨_, rfl⟩ | ⟨_, e⟩
    · exact Nat.le_refl _
    · exact h.top x m e
  · rcases List.mem_append.1 hx with hx | hx
    · exact hsome x (h.dn x hx)
    · rw [List.mem_singleton] at hx; subst hx; rw [hO, if_pos rfl]; rfl
/-- all of its foregoers are gone through -/
theorem BfIn.done (h : BfIn G Z Ab b O q1 q2 d s D) (hd : ∀ t, Nx G Z Ab t s → t ∈ D) : Bf G Z Ab b O q1 q2 d :=
  ⟨h.far, h.tgt, h.v1, h.v2, fun x t m e n1 n2 hx => by
    by_cases hxs : x = s
    · subst hxs; exact h.dn t (hd t hx)
    · exact h.clo x t m e n1 n2 hxs hx, h.top, fun x m e hm => ⟨fun hx => by have := h.v1 x hx; rw [e] at this; injection this; omega, fun hx => by have := h.v2 x hx; rw [e] at this; injection this; omega⟩⟩
theorem Bf.all (h : Bf G Z Ab b O [] [] d) : FarOk G Z Ab b O := by
  refine ⟨h.far, fun s m u g => ?_⟩
  induction m generalizing s with
  | zero => cases g; rw [h.tgt]; rfl
  | succ m ih =>
    obtain ⟨t, hx, hg⟩ := g.head
    obtain ⟨k, hk⟩ := Option.isSome_iff_exists.1 (ih t hg)
    exact h.clo t s k hk (by simp) (by simp) hx
theorem FarOk.iff (h : FarOk G Z Ab b O) {m : Nat} : O s = some m ↔ Far G Z Ab b m s := by
  refine ⟨h.far s m, fun hf => ?_⟩
  obtain ⟨⟨u, g⟩, _⟩ := id hf
  obtain ⟨k, hk⟩ := Option.isSome_iff_exists.1 (h.all s m u g)
  rw [hk, (h.far s k hk).uniq hf]
/-- a state's distance is below the number of points -/
theorem Nx.lt (hg : GoodG G) (h : Nx G Z Ab s t) : s.1 < G.length ∧ t.1 < G.length := by
  cases h with
  | up h1 h2 h3 =>
    rename_i p u q
    have hp : p < G.length := by
      rcases Nat.lt_or_ge p G.length with h4 | h4
      · exact h4
      · rw [show nth G p = [] by simp [nth, List.getD, List.getElem?_eq_none h4]; rfl] at h3; simp at h3
    exact ⟨hp, hg p hp q h3⟩
  | down h1 h2 h3 => exact ⟨hg _ h2 _ h3, h2⟩
theorem Ways.lt (hg : GoodG G) {a : St} (ha : a.1 < G.length) {l : List St} (h : Ways G Z Ab a l) : ∀ x, x ∈ l → x.1 < G.length := by
  induction h with
  | one => intro x hx; rw [List.mem_singleton] at hx; subst hx; exact ha
  | more _ hx ih =>
    intro x hm
    rcases List.mem_cons.1 hm with rfl | hm
    · exact (Nx.lt hg hx).2
    · exact ih x hm
theorem Far.nodup (hA : AbOk G Z Ab) {a : St} {m : Nat} (h : Far G Z Ab b m a) {l : List St} (hw : Ways G Z Ab a (s :: l)) (hl : l.length = m) (hs : s.1 = b) : (s :: l).Pairwise (fun x y => x.1 ≠ y.1) := by
  apply Classical.byContradiction
  intro hn
  obtain ⟨u, l', h1, h2⟩ := hw.shorter hA hn
  rw [hs] at h1
  exact h.2 l'.length (by omega) u h1.go
theorem Far.lt (hA : AbOk G Z Ab) (hg : GoodG G) {a : St} (ha : a.1 < G.length) {m : Nat} (h : Far G Z Ab b m a) : m < G.length := by
  obtain ⟨⟨u, g⟩, _⟩ := id h
  obtain ⟨l, hw, hl⟩ := g.ways
  have hp := h.nodup hA hw hl rfl
  have hn : (((b, u) :: l).map (·.1)).Nodup := by
    rw [List.nodup_iff_pairwise_ne, List.pairwise_map]; exact hp
  have := nodup_lt_length hn (n := G.length) (fun x hx => by
    obtain ⟨y, hy, rfl⟩ := List.mem_map.1 hx
    exact hw.lt hg ha y hy)
  simp at this
  omega
end

/-! ### the way that goes on to the least point -/
section
variable (G : List (List Nat)) (Z Ab : Nat → Prop) (b : Nat)
/-- t is the least next one of s that is m steps away -/
def Bst (s : St) (m : Nat) (t : St) : Prop := Nx G Z Ab s t ∧ Far G Z Ab b m t ∧ ∀ r, Nx G Z Ab s r → Far G Z Ab b m r → t.1 ≤ r.1
/-- a way whose each step is the least: the last one first; m steps to go -/
inductive Grd (a : St) : Nat → List St → Prop
  | one {m : Nat} : Far G Z Ab b m a → Grd a m [a]
  | more {m : Nat} {s t : St} {l : List St} : Grd a (m + 1) (s :: l) → Bst G Z Ab b s m t → Grd a m (t :: s :: l)
/-- .. forwards: the points behind s -/
inductive GrF : Nat → St → List Nat → Prop
  | nil {s : St} : s.1 = b → GrF 0 s []
  | cons {m : Nat} {s t : St} {l : List Nat} : Bst G Z Ab b s m t → GrF m t l → GrF (m + 1) s (t.1 :: l)
/-- any way, forwards -/
inductive WyF : Nat → St → List Nat → Prop
  | nil {s : St} : s.1 = b → WyF 0 s []
  | cons {m : Nat} {s t : St} {l : List Nat} : Nx G Z Ab s t → WyF m t l → WyF (m + 1) s (t.1 :: l)
end
section
variable {G : List (List Nat)} {Z Ab : Nat → Prop} {b : Nat} {a s t : St} {m : Nat} {l : List St}
theorem Grd.far (h : Grd G Z Ab b a m (s :: l)) : Far G Z Ab b m s := by
  cases h with
  | one h => exact h
  | more _ h => exact h.2.1
theorem Grd.ways (h : Grd G Z Ab b a m l) : Ways G Z Ab a l := by
  induction h with
  | one => exact .one
  | more _ hb ih => exact .more ih hb.1
theorem Grd.start (h : Grd G Z Ab b a m (s :: l)) : Far G Z Ab b (m + l.length) a := by
  generalize hk : s :: l = k at h
  induction h generalizing s l with
  | one h => injection hk with e1 e2; subst e1 e2; exact h
  | more h1 _ ih =>
    injection hk with e1 e2
    subst e1 e2
    have := ih rfl
    rw [List.length_cons]
    rwa [show ∀ a b : Nat, a + (b + 1) = a + 1 + b from by omega]
theorem Grd.fwd {r : List Nat} (h : Grd G Z Ab b a m (s :: l)) (hr : GrF G Z Ab b m s r) : ∃ q, GrF G Z Ab b (m + l.length) a q ∧ a.1 :: q = ((s :: l).map (·.1)).reverse ++ r := by
  generalize hk : s :: l = k at h
  induction h generalizing s l r with
  | one h => injection hk with e1 e2; subst e1 e2; exact ⟨r, hr, by simp⟩
  | more h1 hb ih =>
    injection hk with e1 e2
    subst e1 e2
    obtain ⟨q, h2, h3⟩ := ih (.cons hb hr) rfl
    refine ⟨q, ?_, ?_⟩
    · rw [List.length_cons, show ∀ a b : Nat, a + (b + 1) = a + 1 + b from by omega]; exact h2
    · rw [h3]; simp
theorem Ways.fwd {r : List Nat} (h : Ways G Z Ab a (s :: l)) (hr : WyF G Z Ab b m s r) : ∃ q, WyF G Z Ab b (m + l.length) a q ∧ a.1 :: q = ((s :: l).map (·.1)).reverse ++ r := by
  generalize hk : s :: l = k at h
  induction h generalizing s l r m with
  | one => injection hk with e1 e2; subst e1 e2; exact ⟨r, hr, by simp⟩
  | more h1 hb ih =>
    injection hk with e1 e2
    subst e1 e2
    obtain ⟨q, h2, h3⟩ := ih (.cons hb hr) rfl
    refine ⟨q, ?_, ?_⟩
    · rw [List.length_cons, show ∀ a b : Nat, a + (b + 1) = a + 1 + b from by omega]; exact h2
    · rw [h3]; simp
theorem WyF.go {l : List Nat} (h : WyF G Z Ab b m s l) : ∃ u, Go (G := G) (Z := Z) (Ab := Ab) m s (b, u) := by
  induction h with
  | nil h => rename_i s; subst h; exact ⟨s.2, .refl _⟩
  | cons hx _ ih => obtain ⟨u, g⟩ := ih; exact ⟨u, Go.pre hx g⟩
theorem WyF.length {l : List Nat} (h : WyF G Z Ab b m s l) : l.length = m := by
  induction h with
  | nil => rfl
  | cons _ _ ih => simp [ih]
theorem GrF.length {l : List Nat} (h : GrF G Z Ab b m s l) : l.length = m := by
  induction h with
  | nil => rfl
  | cons _ _ ih => simp [ih]
/-- the next state is known by its point -/
theorem Nx.same (ho : OneWay G) (hg : GoodG G) {r : St} (h1 : Nx G Z Ab s t) (h2 : Nx G Z Ab s r) (h : t.1 = r.1) : t = r := by
  have hl := Nx.lt hg h1
  cases h1 with
  | up _ _ g1 =>
    cases h2 with
    | up _ _ g2 => simp only at h; subst h; rfl
    | down _ g3 g4 => simp only at h hl; subst h; exact absurd g1 (ho _ _ hl.1 hl.2 g4)
  | down _ g3 g4 =>
    cases h2 with
    | up _ _ g2 => simp only at h hl; subst h; exact absurd g2 (ho _ _ hl.1 hl.2 g4)
    | down _ _ _ => simp only at h; subst h; rfl
theorem GrF.least (ho : OneWay G) (hg : GoodG G) {l l' : List Nat} (h : GrF G Z Ab b m s l) (hf : Far G Z Ab b m s) (h' : WyF G Z Ab b m s l') : lexL l' l = false := by
  induction h generalizing l' with
  | nil => cases h'; rfl
  | @cons m s t l hb _ ih =>
    cases h' with
    | @cons _ _ t' l' hx hw =>
      have hft := (hf.of_next hx hw.go (Nat.le_refl _)).2
      have hle := hb.2.2 _ hx hft
      unfold lexL
      by_cases e : t'.1 = t.1
      · rw [if_pos e]
        have := Nx.same ho hg hx hb.1 e
        subst this
        exact ih hft hw
      · rw [if_neg e, decide_eq_false_iff_not]
        omega
/-- of the trails from a to b that are open and do not begin or end at what is given: none, or the least of the shortest -/
structure BestT (G : List (List Nat)) (Z Ab : Nat → Prop) (a b : Nat) (o : Option (List Nat)) : Prop where
  bn : o = none → ∀ l, ¬ Z a → Trl G Z Ab a (b :: l) → Z b
  bs : ∀ t, o = some t → ¬ Z a ∧ ¬ Z b ∧ (∃ l, Trl G Z Ab a (b :: l) ∧ t = (b :: l).reverse) ∧ ∀ l, Trl G Z Ab a (b :: l) → lessL (b :: l).reverse t = false
theorem lexL_total : ∀ {x y : List Nat}, x.length = y.length → lexL x y = false → lexL y x = false → x = y
  | [], [], _, _, _ => rfl
  | [], _ :: _, h, _, _ => by simp at h
  | _ :: _, [], h, _, _ => by simp at h
  | p :: x, q :: y, h, h1, h2 => by
    unfold lexL at h1 h2
    by_cases e : p = q
    · subst e
      rw [if_pos rfl] at h1 h2
      rw [lexL_total (by simpa using h) h1 h2]
    · rw [if_neg e, decide_eq_false_iff_not] at h1
      rw [if_neg (fun h => e h.symm), decide_eq_false_iff_not] at h2
      omega
theorem lessL_total {x y : List Nat} (h1 : lessL x y = false) (h2 : lessL y x = false) : x = y := by
  unfold lessL at h1 h2
  by_cases e : x.length = y.length
  · rw [if_pos e] at h1; rw [if_pos e.symm] at h2; exact lexL_total e h1 h2
  · rw [if_neg e, decide_eq_false_iff_not] at h1
    rw [if_neg (fun h => e h.symm), decide_eq_false_iff_not] at h2
    omega
theorem BestT.uniq {Z Ab : Nat → Prop} {a b : Nat} {o o' : Option (List Nat)} (h : BestT G Z Ab a b o) (h' : BestT G Z Ab a b o') : o = o' := by
  cases o with
  | none =>
    cases o' with
    | none => rfl
    | some t =>
      obtain ⟨h1, h2, ⟨l, h3, _⟩, _⟩ := h'.bs t rfl
      exact absurd (h.bn rfl l h1 h3) h2
  | some t =>
    obtain ⟨h1, h2, ⟨l, h3, h4⟩, h5⟩ := h.bs t rfl
    cases o' with
    | none => exact absurd (h'.bn rfl l h1 h3) h2
    | some t' =>
      obtain ⟨_, _, ⟨l', g3, g4⟩, g5⟩ := h'.bs t' rfl
      rw [lessL_total (x := t) (y := t') (by rw [h4]; exact g5 l h3) (by rw [g4]; exact h5 l' g3)]
theorem Hst.best {dst : Int} {Z Ab : Nat → Prop} {a b : Nat} {L : List Bool} {o : Option (List Nat)} (h : Hst dst Z (fun l' => ¬ Z a ∧ Trl G Z Ab a l') L o) (hb : (b : Int) = dst) : BestT G Z Ab a b o := by
  refine ⟨fun e l h1 h2 => ?_, fun t e => ?_⟩
  · apply Classical.byContradiction
    intro hz
    exact h.bnone e b l ⟨h1, h2⟩ hz hb
  · obtain ⟨⟨x, l, ⟨h1, h2⟩, h3, h4, h5⟩, h6⟩ := h.bsome t e
    have hx : x = b := by omega
    subst hx
    exact ⟨h1, h3, ⟨l, h2, h5⟩, fun l' hl' => h6 x l' ⟨h1, hl'⟩ h3 h4⟩
/-- the way that was gone is the best trail -/
theorem Grd.best (hA : AbOk G Z Ab) (ho : OneWay G) (hg : GoodG G) {a b : Nat} (ha : a < G.length) (hza : ¬ Z a) (hzb : ¬ Z b) {s : St} {l : List St} (h : Grd G Z Ab b (a, true) 0 (s :: l)) : BestT G Z Ab a b (some ((s :: l).map (·.1)).reverse) := by
  refine ⟨fun e => (by cases e), fun t e => ?_⟩
  injection e with e
  subst e
  have hs : s.1 = b := h.far.zero_eq
  have hfa := h.start
  have hp := hfa.nodup hA h.ways (by omega) hs
  have htr := (h.ways.trl ho ha hg hp).1
  refine ⟨hza, hzb, ⟨l.map (·.1), by simpa [hs] using htr, by simp [hs]⟩, fun l' hl' => ?_⟩
  obtain ⟨q, hq, hqe⟩ := h.fwd (r := []) (.nil hs)
  obtain ⟨k, hk, hk2, _, _, _, _⟩ := hl'.ways ho ha hza
  cases k with
  | nil => simp at hk2
  | cons s' k =>
    simp only [List.map_cons] at hk2
    injection hk2 with e1 e2
    obtain ⟨q', hq', hqe'⟩ := hk.fwd (m := 0) (r := []) (.nil e1)
    have hlen : l.length ≤ k.length := by
      rcases Nat.lt_or_ge k.length l.length with h1 | h1
      · have hgo := hk.go
        obtain ⟨p, u⟩ := s'
        simp only at e1
        subst e1
        exact absurd hgo (hfa.2 k.length (by omega) u)
      · exact h1
    have hl2 : k.length = l'.length := by rw [← e2]; simp
    rw [← e1, ← e2]
    rw [List.append_nil] at hqe hqe'
    have e3 : (s'.1 :: List.map (fun x : St => x.1) k).reverse = a :: q' := by rw [hqe']; rfl
    rw [e3, ← hqe]
    unfold lessL
    have hq1 := hq.length
    have hq2 := hq'.length
    by_cases he : k.length = l.length
    · rw [if_pos (by simp; omega)]
      unfold lexL
      rw [if_pos rfl]
      rw [he] at hq'
      exact hq.least ho hg hfa hq'
    · rw [if_neg (by simp; omega), decide_eq_false_iff_not]
      simp
      omega
/-- no way: no trail -/
theorem BestT.none_of (ho : OneWay G) {Z Ab : Nat → Prop} {a b : Nat} (ha : a < G.length) (h : ¬ Z a → ¬ Z b → ∀ m u, ¬ Go (G := G) (Z := Z) (Ab := Ab) m (a, true) (b, u)) : BestT G Z Ab a b none := by
  refine ⟨fun _ l h1 h2 => ?_, fun t e => (by cases e)⟩
  apply Classical.byContradiction
  intro hz
  obtain ⟨k, hk, hk2, _, _, _, _⟩ := h2.ways ho ha h1
  cases k with
  | nil => simp at hk2
  | cons s' k =>
    simp only [List.map_cons] at hk2
    injection hk2 with e1 e2
    obtain ⟨p, u⟩ := s'
    simp only at e1
    subst e1
    exact h h1 hz _ u hk.go
end
end Go.Proofs.Ytaibdlnolpbpiaa
/- A map of the call's own from states to lists of states, each in a row of its own. Condition: lengths within Go's bound. -/
namespace Go.Proofs.Ytaibdlnolpbpiaa
open Go.RowKit Go.Maps

/-- a slice's header -/
abbrev Hd := Option Addr × Nat × Nat
abbrev hd0 : Hd := (none, 0, 0)
abbrev hdV (h : Hd) : Value := .slice h.1 h.2.1 h.2.2
def hdElem : Value → Option (DataW Hd × List MemPlace)
  | .slice A n c => some (.held (A, n, c), [])
  | _ => none
theorem hdElem_inv {v : Value} {z : DataW Hd × List MemPlace} (h : hdElem v = some z) : ∃ x : Hd, v = hdV x ∧ z = (.held x, []) := by
  cases v
  case slice A n c => exact ⟨(A, n, c), rfl, by simpa [hdElem] using h.symm⟩
  all_goals cases h
/-- block b is a map from states to slices: at s the slice g s -/
def MapH (w : World) (b n : Nat) (g : St → Hd) : Prop := ∃ D : DataW Hd, w.ownsMap Try.prog 63 hdElem b n D ∧ ∀ s, okS s → D.atKey (kS s) (.held hd0) = .held (g s)
section
variable {w w' : World} {b n : Nat} {g : St → Hd}
theorem MapH.made (w : World) : MapH (w.alloc (.map #[] 0)) w.heap.size 0 (fun _ => hd0) := ⟨.map [], World.ownsMap_made _ _ _ _, fun _ _ => rfl⟩
theorem MapH.lt (h : MapH w b n g) : b < w.heap.size := by obtain ⟨D, h, _⟩ := h; exact h.lt
theorem MapH.mono (h : MapH w b n g) {m : Nat} (hn : n ≤ m) : MapH w b m g := by obtain ⟨D, h, q⟩ := h; exact ⟨D, h.mono hn, q⟩
theorem MapH.grown {row : Option Nat} (h : MapH w b n g) (hg : w.grownBy w' row) (hne : some b ≠ row) : MapH w' b n g := by obtain ⟨D, h, q⟩ := h; exact ⟨D, h.kept hg hne, q⟩
theorem MapH.below (h : MapH w b n g) (hb : Below w.heap.size w w') : MapH w' b n g := h.grown (below_grown hb none) (by simp)
theorem MapH.alloc (h : MapH w b n g) (o : Obj) : MapH (w.alloc o) b n g := h.grown (World.grownBy_alloc w o none) (by simp)
theorem MapH.turn {T : Nat → Prop} (h : MapH w b n g) (ht : Turn w w' T) (hT : ¬ T b) : MapH w' b n g := by
  have hlt := h.lt
  obtain ⟨D, ⟨es, clock, hb, F⟩, q⟩ := h
  exact ⟨D, ⟨es, clock, (ht.block b hlt hT).trans hb, F⟩, q⟩
theorem MapH.congr (h : MapH w b n g) {f : St → Hd} (hg : ∀ x, g x = f x) : MapH w b n f := by
  have : g = f := funext hg
  rw [← this]; exact h
end
open Classical in
noncomputable def putH (g : St → Hd) (s : St) (v : Hd) : St → Hd := fun t => if t = s then v else g t
section
variable (w : World) {ops : Array Oper} {rest : List Oper} {o : Oper} {a : Act} {Q : Exit → Act → World → Prop}
theorem zeroH (w : World) : (zeroValue 80).run Try.prog w = .ok (.slice none 0 0) w := by kernel_rfl
theorem wpList_look_H (hg : o.guard = none) (m x : Operand) (hop : o.op = Op.lookup 86 m x false) (b n : Nat) (g : St → Hd)
    (hm : a.eval m = .map (some b)) (hown : MapH w b n g) (s : St) (hx : a.eval x = sV s) (hok : okS s) {A : Option Addr} {m c : Nat} (hgs : g s = (A, m, c))
    (hK : wpList Try.prog ops Q rest (a.put o.dst (.slice A m c)) w) : wpList Try.prog ops Q (o :: rest) a w := by
  refine wpList_plain hg fun K' hK' => ?_
  obtain ⟨D, hD, q⟩ := hown
  obtain ⟨v, ps, hrun, hv⟩ := hD.lookup law63 Try.underlying86 (zeroH w) (z := .slice none 0 0) (zd := .held hd0) (zp := []) rfl (keyOf_sV hok)
  rw [q s hok] at hv
  obtain ⟨y, rfl, hy⟩ := hdElem_inv hv
  injection hy with hy _
  injection hy with hy
  subst hy
  unfold Oper.wp
  rw [hgs] at hrun
  simp [execOp, hop, hm, hx, hrun, Result.andThen]
  exact hK' _ _ hK
theorem wpList_store_H (hg : o.guard = none) (m x v : Operand) (hop : o.op = Op.mapUpdate 86 m x v) (b n : Nat) (g : St → Hd)
    (hm : a.eval m = .map (some b)) (hown : MapH w b n g) (hn : n < maxLen) (s : St) (hx : a.eval x = sV s) (hok : okS s) (c : Hd) (hv : a.eval v = hdV c)
    (hK : ∀ w', MapH w' b (n + 1) (putH g s c) → w.grownBy w' (some b) → wpList Try.prog ops Q rest (a.put o.dst undef) w') : wpList Try.prog ops Q (o :: rest) a w := by
  obtain ⟨D, hD, q⟩ := hown
  refine wpList_mapUpdate_own w hg m x v 86 hop 63 80 law63 Try.underlying86 hdElem b n D hm hD hn _ _ (kS s) hx hv (keyOf_sV hok) (.held c) [] rfl fun w' h1 h2 => hK w' ⟨_, h1, fun t ht => ?_⟩ h2
  unfold putH
  by_cases hy : t = s
  · subst hy
    rw [if_pos rfl, atKey_put_same hD.isMap (law63.key (keyOf_sV hok))]
  · rw [if_neg hy, atKey_put_other (fun e => hy (kS_inj ht hok e))]
    exact q t ht
end
theorem two_keys {l : List MapEntry} (h : l.Pairwise (fun x y => x.key ≠ y.key)) {x y : MapEntry} (hx : x ∈ l) (hy : y ∈ l) (e : x.key = y.key) : x = y := by
  induction l with
  | nil => cases hx
  | cons a r ih =>
    have h' := List.pairwise_cons.1 h
    rcases List.mem_cons.1 hx with e1 | hx2
    · rcases List.mem_cons.1 hy with e2 | hy2
      · rw [e1, e2]
      · rw [e1] at e; exact absurd e (h'.1 y hy2)
    · rcases List.mem_cons.1 hy with e2 | hy2
      · rw [e2] at e; exact absurd e.symm (h'.1 x hx2)
      · exact ih h'.2 hx2 hy2
set_option maxRecDepth 1000000 in
theorem klaw : WideMaps.KeyLaw Try.prog 63 := deep_law_laid laidAll (m := 2) (by omega) (of_decide_eq_true (by kernel_rfl)) (by kernel_rfl) wideState
/-- what the store behind a look-up for 'm[k] = append(m[k], ..)' leaves -/
def EntS (w1 : World) (b n : Nat) (g : St → Hd) (s : St) (st : Int) : Prop := ∀ w2 c, w2.heap[b]? = w1.heap[b]? →
  ∃ w3, (Instr.entryStore 86 (.map (some b)) (goInt st) (hdV c)).run Try.prog w2 = .ok () w3 ∧ w2.grownBy w3 (some b) ∧ MapH w3 b (n + 1) (putH g s c)
theorem MapH.entry {w : World} {b n : Nat} {g : St → Hd} (h : MapH w b n g) (hn : n < maxLen) {s : St} (hok : okS s) :
    ∃ (st : Int) (w1 : World), (Instr.mapEntry 86 (.map (some b)) (sV s)).run Try.prog w = .ok (.tuple #[hdV (g s), goInt st]) w1 ∧ w.grownBy w1 (some b) ∧ EntS w1 b n g s st := by
  obtain ⟨D, ⟨es, clock, hb, F, hs, hD⟩, q⟩ := h
  obtain ⟨v0, st, es1, clock1, hrun, hv0, hback⟩ := WideElems.entry_then_store klaw Try.underlying86 (z := .slice none 0 0) zeroH hb F (keyOf_sV hok)
  have hv : v0 = hdV (g s) := by
    have hq := q s hok
    rw [hD] at hq
    rcases Maps.fit_look false law63 Try.underlying86 (zeroH w) hb F (keyOf_sV hok) with ⟨_, hno, hat⟩ | ⟨e0, y, hm0, hk0, _, hR, hat, _⟩
    · rcases hv0 with ⟨e1, hm1, hk1, _⟩ | ⟨_, rfl⟩
      · exact absurd hk1 (hno e1 hm1)
      · rw [hat] at hq; rw [← DataW.held.inj hq]
    · rcases hv0 with ⟨e1, hm1, hk1, rfl⟩ | ⟨hno, _⟩
      · have he := two_keys ((MapKept.stamped_iff es clock).1 F.stamped).2.2 hm1 hm0 (hk1.trans hk0.symm)
        subst he
        rw [hat] at hq
        obtain ⟨x, hx1, hx2⟩ := hdElem_inv hR
        rw [hx2] at hq
        rw [hx1, DataW.held.inj hq]
      · exact absurd hk0 (hno e0 hm0)
  subst hv
  refine ⟨st, ChangeMaps.setBlock w b (.map es1 clock1), hrun, ⟨rfl, rfl, rfl, by simp [ChangeMaps.setBlock], fun i _ hi => ChangeMaps.heap_setBlock_other hb _ (fun e => hi (by rw [e]))⟩, fun w2 c hw2 => ?_⟩
  rw [ChangeMaps.heap_setBlock_same hb] at hw2
  obtain ⟨es', clock', hst, hup⟩ := hback w2 (hdV c) hw2
  have hown : w.ownsMap Try.prog 63 hdElem b n D := ⟨es, clock, hb, F, hs, hD⟩
  obtain ⟨w', hup', hown', _⟩ := hown.update law63 Try.underlying86 hn (keyOf_sV hok) (val := hdV c) (d := .held c) (ps := []) rfl
  rw [hup] at hup'
  injection hup' with _ hw'
  subst hw'
  obtain ⟨es2, clock2, hb2, F2, hs2, hD2⟩ := hown'
  rw [ChangeMaps.heap_setBlock_same hb] at hb2
  refine ⟨ChangeMaps.setBlock w2 b (.map es' clock'), hst, ⟨rfl, rfl, rfl, by simp [ChangeMaps.setBlock], fun i _ hi => ChangeMaps.heap_setBlock_other hw2 _ (fun e => hi (by rw [e]))⟩, D.put (kS s) (.held c), ⟨es2, clock2, (ChangeMaps.heap_setBlock_same hw2 _).trans hb2, F2, hs2, hD2⟩, fun t ht => ?_⟩
  unfold putH
  by_cases hy : t = s
  · subst hy
    rw [if_pos rfl, atKey_put_same hown.isMap (law63.key (keyOf_sV hok))]
  · rw [if_neg hy, atKey_put_other (fun e => hy (kS_inj ht hok e))]
    exact q t ht
section
variable (w : World) {ops : Array Oper} {rest : List Oper} {o : Oper} {a : Act} {Q : Exit → Act → World → Prop}
theorem wpList_entry_H (hg : o.guard = none) (m x : Operand) (hop : o.op = Op.mapEntry 86 m x) (b n : Nat) (g : St → Hd)
    (hm : a.eval m = .map (some b)) (hown : MapH w b n g) (hn : n < maxLen) (s : St) (hx : a.eval x = sV s) (hok : okS s)
    (hK : ∀ st w1, w.grownBy w1 (some b) → EntS w1 b n g s st → wpList Try.prog ops Q rest (a.put o.dst (.tuple #[hdV (g s), goInt st])) w1) : wpList Try.prog ops Q (o :: rest) a w := by
  refine wpList_plain hg fun K' hK' => ?_
  obtain ⟨st, w1, hrun, h1, h2⟩ := hown.entry hn hok
  unfold Oper.wp
  simp [execOp, hop, hm, hx, hrun, Result.andThen]
  exact hK' _ _ (hK st w1 h1 h2)
theorem wpList_entryStore_H (hg : o.guard = none) (m z v : Operand) (hop : o.op = Op.entryStore 86 m z v) {w1 : World} {b n : Nat} {g : St → Hd} {s : St} {st : Int} (hs : EntS w1 b n g s st)
    (hm : a.eval m = .map (some b)) (hz : a.eval z = goInt st) (c : Hd) (hv : a.eval v = hdV c) (hb : w.heap[b]? = w1.heap[b]?)
    (hK : ∀ w3, w.grownBy w3 (some b) → MapH w3 b (n + 1) (putH g s c) → wpList Try.prog ops Q rest (a.put o.dst undef) w3) : wpList Try.prog ops Q (o :: rest) a w := by
  refine wpList_plain hg fun K' hK' => ?_
  obtain ⟨w3, hrun, h1, h2⟩ := hs w c hb
  unfold Oper.wp
  simp [execOp, hop, hm, hz, hv, hrun, Result.andThen]
  exact hK' _ _ (hK w3 h1 h2)
end
/-- a map from states to lists of states, each in a row of its own; the blocks kx lie elsewhere -/
structure Back (n : Nat) (kx : Nat → Prop) (mb cnt : Nat) (hd : St → Hd) (lst : St → List St) (w : World) : Prop where
  map : MapH w mb cnt hd
  own : ∀ s, s.1 < n → OwnQ w (mb + 1) 63 2 (hd s).1 (hd s).2.1 (hd s).2.2 (cellsS (lst s))
  far : ∀ s t, s.1 < n → t.1 < n → s ≠ t → ∀ b o1, (hd s).1 = some ⟨b, o1, none⟩ → ∀ o2, (hd t).1 ≠ some ⟨b, o2, none⟩
  kx : ∀ b, kx b → b < w.heap.size ∧ b ≠ mb ∧ ∀ s off, s.1 < n → (hd s).1 ≠ some ⟨b, off, none⟩
section
variable {n mb cnt : Nat} {kx kx' : Nat → Prop} {hd : St → Hd} {lst : St → List St} {w w' w1 w2 : World} {s : St}
theorem Back.made (w : World) (n : Nat) {kx : Nat → Prop} (hk : ∀ b, kx b → b < w.heap.size) : Back n kx w.heap.size 0 (fun _ => hd0) (fun _ => []) (w.alloc (.map #[] 0)) :=
  ⟨MapH.made w, fun _ _ => OwnQ.nil _ _ _ _, fun s t _ _ _ b o1 e => (by cases e), fun b hb => ⟨by have := hk b hb; simp; omega, by have := hk b hb; omega, fun s off _ e => (by cases e)⟩⟩
theorem Back.row (h : Back n kx mb cnt hd lst w) (hs : s.1 < n) {b off : Nat} (e : (hd s).1 = some ⟨b, off, none⟩) : mb < b ∧ b < w.heap.size := by
  rcases (h.own s hs).at_row with h1 | ⟨g', off', h1, h2, h3⟩
  · rw [e] at h1; cases h1
  · rw [e] at h1; injection h1 with h1; injection h1 with h1; omega
theorem Back.step (h : Back n kx mb cnt hd lst w) (hb : Below w.heap.size w w') : Back n (fun b => kx b ∨ (w.heap.size ≤ b ∧ b < w'.heap.size)) mb cnt hd lst w' := by
  have h1 := h.map.lt
  refine ⟨h.map.below hb, fun s hs => (h.own s hs).below hb, h.far, fun b hk => ?_⟩
  rcases hk with hk | hk
  · obtain ⟨f1, f2⟩ := h.kx b hk
    exact ⟨Nat.lt_of_lt_of_le f1 hb.size, f2⟩
  · exact ⟨hk.2, by omega, fun s off hs e => by have := (h.row hs e).2; omega⟩
theorem Back.weak (h : Back n kx mb cnt hd lst w) (hk : ∀ b, kx' b → kx b) : Back n kx' mb cnt hd lst w := ⟨h.map, h.own, h.far, fun b hb => h.kx b (hk b hb)⟩
theorem Back.congr (h : Back n kx mb cnt hd lst w) {lst' : St → List St} (hl : ∀ s, s.1 < n → lst s = lst' s) : Back n kx mb cnt hd lst' w := ⟨h.map, fun s hs => by rw [← hl s hs]; exact h.own s hs, h.far, h.kx⟩
theorem Back.mono (h : Back n kx mb cnt hd lst w) {c' : Nat} (hc : cnt ≤ c') : Back n kx mb c' hd lst w := ⟨h.map.mono hc, h.own, h.far, h.kx⟩
/-- another's cells are written: they are none of this map's -/
theorem Back.turn {T : Nat → Prop} (h : Back n kx mb cnt hd lst w) (ht : Turn w w' T) (hT : ∀ b, T b → kx b) : Back n kx mb cnt hd lst w' := by
  have hm : ¬ T mb := fun h1 => (h.kx mb (hT mb h1)).2.1 rfl
  refine ⟨h.map.turn ht hm, fun s hs => (h.own s hs).turn ht fun g off e hg => (h.kx g (hT g hg)).2.2 s off hs e, h.far, fun b hb => ?_⟩
  obtain ⟨f1, f2⟩ := h.kx b hb
  exact ⟨Nat.lt_of_lt_of_le f1 ht.size, f2⟩
open Classical in
/-- behind an append onto the list at s, and the store of what comes back -/
theorem Back.app (h : Back n kx mb cnt hd lst w) (hs : s.1 < n) {A' : Option Addr} {m' c' : Nat} {l' : List St} (ho : OwnQ w1 (mb + 1) 63 2 A' m' c' (cellsS l')) (ht : Turn w w1 (fun b => b = mb ∨ ∃ off, (hd s).1 = some ⟨b, off, none⟩))
    (hd' : ∀ g off, A' = some ⟨g, off, none⟩ → (∃ off', (hd s).1 = some ⟨g, off', none⟩) ∨ w.heap.size ≤ g) (hm2 : MapH w2 mb (cnt + 1) (putH hd s (A', m', c'))) (hg2 : w1.grownBy w2 (some mb)) :
    Back n kx mb (cnt + 1) (putH hd s (A', m', c')) (fun t => if t = s then l' else lst t) w2 := by
  have hmlt := h.map.lt
  have hA : ∀ g off, A' = some ⟨g, off, none⟩ → mb < g := fun g off e => by
    rcases hd' g off e with ⟨off', h1⟩ | h1
    · exact (h.row hs h1).1
    · omega
  have hne : ∀ t, t.1 < n → t ≠ s → ∀ g off, (hd t).1 = some ⟨g, off, none⟩ → ∀ off2, A' ≠ some ⟨g, off2, none⟩ := fun t ht' hts g off e off2 e2 => by
    rcases hd' g off2 e2 with ⟨off', h1⟩ | h1
    · exact h.far t s ht' hs hts g off e off' h1
    · have := (h.row ht' e).2; omega
  refine ⟨hm2, fun t htn => ?_, fun t r htn hrn htr b o1 e o2 e2 => ?_, fun b hb => ?_⟩
  · unfold putH
    by_cases hts : t = s
    · subst hts
      rw [if_pos rfl, if_pos rfl]
      exact ho.turn (Turn.of_grown hg2) fun g off e e2 => by injection e2 with e2; have := hA g off e; omega
    · rw [if_neg hts, if_neg hts]
      refine ((h.own t htn).turn ht fun g off e hT => hT.elim (fun e2 => by have := (h.row htn e).1; omega) fun ⟨off', e'⟩ => h.far t s htn hs hts g off e off' e').turn (Turn.of_grown hg2) fun g off e e2 => ?_
      injection e2 with e2
      have := (h.row htn e).1
      omega
  · unfold putH at e e2
    by_cases hts : t = s
    · rw [if_pos hts] at e
      rw [if_neg (fun e3 => htr (hts.trans e3.symm))] at e2
      exact hne r hrn (fun e3 => htr (hts.trans e3.symm)) b o2 e2 o1 e
    · rw [if_neg hts] at e
      by_cases hrs : r = s
      · rw [if_pos hrs] at e2
        exact hne t htn hts b o1 e o2 e2
      · rw [if_neg hrs] at e2
        exact h.far t r htn hrn htr b o1 e o2 e2
  · obtain ⟨f1, f2, f3⟩ := h.kx b hb
    refine ⟨?_, f2, fun t off htn e => ?_⟩
    · have h1 := ht.size
      have h2 := hg2.size
      omega
    · unfold putH at e
      by_cases hts : t = s
      · rw [if_pos hts] at e
        rcases hd' b off e with ⟨off', h1⟩ | h1
        · exact f3 s off' hs h1
        · omega
      · rw [if_neg hts] at e
        exact f3 t off htn e
end
end Go.Proofs.Ytaibdlnolpbpiaa
/- sep's view.far: its closure, walked: a state is put behind the list of another one. Conditions: the captured variables and the lists are the call's own. -/
namespace Go.Proofs.Ytaibdlnolpbpiaa
open Go.RowKit

theorem cells_row {w : World} {g : Nat} {e : TypeId} {vs : List Value} (h : RowC w g e vs) (j : Nat) (u : Value) (hj : vs[j]? = some u) : w.cell? ((⟨g, 0, none⟩ : Addr).add j) = some u := by
  rw [Addr.add_lit, Nat.zero_add, h.cell j]; exact hj
def BappPost (n : Nat) (kx : Nat → Prop) (mb cnt : Nat) (hd : St → Hd) (lst : St → List St) (s f : St) (w : World) (e : Ending) (w' : World) : Prop :=
  e = .returned (.tuple #[]) ∧ (∃ hd', Back n kx mb (cnt + 1) hd' (fun t => if t = s then lst s ++ [f] else lst t) w') ∧ Turn w w' (fun b => b = mb ∨ ∃ off, (hd s).1 = some ⟨b, off, none⟩)

set_option maxRecDepth 100000 in
set_option maxHeartbeats 800000 in
theorem bapp_any (n : Nat) (kx : Nat → Prop) (mb cnt sb fb : Nat) (hd : St → Hd) (lst : St → List St) (s f : St) (w : World) (hn : n * 64 ≤ 140737488351232) (hs : s.1 < n) (hcnt : cnt < maxLen) (hls : ((lst s).length + 1) * 16 ≤ 140737488355328)
    (h : Back n kx mb cnt hd lst w) (hsb : RowC w sb 86 [.map (some mb)]) (hfb : RowC w fb 63 [.int .i64 (f.1 : Int), .bool f.2]) :
    Calls Try.prog 69 #[sV s, .pointer (some ⟨sb, 0, none⟩), .pointer (some ⟨fb, 0, none⟩)] w (BappPost n kx mb cnt hd lst s f w) := by
  obtain ⟨wa, hwa⟩ : ∃ wa : World, wa = w := ⟨_, rfl⟩
  subst hwa
  have hok : okS s := by unfold okS; omega
  have hk := (h.own s hs).len
  rw [cellsS_length] at hk
  have hb1 : Below wa.heap.size wa (wa.alloc (.cells #[.int .i64 (s.1 : Int), .bool s.2] 63)) := (Below.refl _ _).alloc (Nat.le_refl _) _
  have hb2 : Below wa.heap.size wa ((wa.alloc (.cells #[.int .i64 (s.1 : Int), .bool s.2] 63)).alloc (.cells #[.int .i64 (f.1 : Int), .bool f.2] 63)) := hb1.alloc (by simp) _
  have H2 := h.step hb2
  have hmlt := h.map.lt
  have hq1 := RowC.new wa 63 [.int .i64 (s.1 : Int), .bool s.2]
  have hs1 := hsb.below' hb1
  have hf1 := hfb.below' hb1
  have q0 := hq1.cell 0
  have q1 := hq1.cell 1
  have s0 := hs1.cell 0
  have f0 := hf1.cell 0
  have f1 := hf1.cell 1
  simp only [List.getElem?_cons_zero, List.getElem?_cons_succ] at q0 q1 s0 f0 f1
  have hmap2 := H2.map
  have hrow2 := RowC.new (wa.alloc (.cells #[.int .i64 (s.1 : Int), .bool s.2] 63)) 63 [.int .i64 (f.1 : Int), .bool f.2]
  have hkk : (hd s).2.1 = (lst s).length := by omega
  have hsz2 : ((wa.alloc (.cells #[.int .i64 (s.1 : Int), .bool s.2] 63)).alloc (.cells #[.int .i64 (f.1 : Int), .bool f.2] 63)).heap.size = wa.heap.size + 2 := by simp
  have HB := Lib.hid (And.intro h (And.intro H2 (And.intro hb2 (And.intro hrow2 (And.intro hsz2 (And.intro hkk hls))))))
  clear h H2 hsb hfb hq1 hs1 hf1 hb1 hb2 hrow2 hsz2 hkk hk hls
  go_enter Try.func69, Try.ntmps69
  go_wp2_with (first
    | (refine wpList_entry_H _ rfl _ _ rfl mb cnt _ rfl hmap2 hcnt s rfl hok ?_)
    | fail)
  intro st w3 hg3 hE
  obtain ⟨h, H2, hb2, hrow2, hsz2, hkk, hls⟩ := HB.out
  have hm2 := H2.map.lt
  have hrw : ∀ off g, (hd s).1 = some ⟨g, off, none⟩ → mb < g := fun off g e => (h.row hs e).1
  have own3 := (H2.own s hs).turn (Turn.of_grown hg3) (fun g off e e2 => by injection e2 with e2; have := hrw off g e; omega)
  have hsz3 := hg3.size
  rw [show (wa.alloc (.cells #[.int .i64 (s.1 : Int), .bool s.2] 63)).heap.size = wa.heap.size + 1 by simp] at hrow2
  have hrow3 := hrow2.grown hg3 (by intro e; injection e; omega)
  have hk16 : ((hd s).2.1 + 1) * 16 ≤ 140737488355328 := by omega
  have hbase : mb + 1 ≤ w3.heap.size := by omega
  have HC := Lib.hid (And.intro hb2 (And.intro H2 (And.intro hrw (And.intro hsz3 (And.intro hg3 (And.intro hbase hsz2))))))
  clear hb2 H2 hrw hsz3 hg3 hrow2 hm2 hsz2 h hkk hls HB hmap2 q0 q1 s0 f0 f1
  obtain ⟨i, e1, e2, e3, e4, e5⟩ := infoState
  go_wp2_with (first
    | (at_builtin; refine wpList_app_q _ rfl _ _ 80 rfl 63 i _ 2 16 e1 e2 e3 e4 e5 (by simp [Value.cells]) (by omega) (mb + 1) _ _ _ _ rfl own3 hbase ⟨wa.heap.size + 1, 0, none⟩ 1 1 [.int .i64 (f.1 : Int), .bool f.2] rfl rfl (cells_row hrow3) (by intro u hu; simp at hu; rcases hu with rfl | rfl <;> rfl) hk16 (by omega) ?_)
    | fail)
  intro A9 c9 w9 ho9 ht9 hd9
  have hb9 : w9.heap[mb]? = w3.heap[mb]? := ht9.block mb (by omega) (fun ⟨off, e⟩ => by have := HC.out.2.2.1 off mb e; omega)
  have HD := Lib.hid (And.intro ho9 (And.intro ht9 hd9))
  clear ho9 ht9 hd9 own3 hrow3 hk16
  go_wp2_with (first
    | (refine wpList_entryStore_H _ rfl _ _ _ rfl hE rfl rfl (A9, (hd s).2.1 + 1, c9) rfl hb9 ?_)
    | fail)
  intro w10 hg10 hm10
  have HF := Lib.hid (And.intro hg10 hm10)
  clear hg10 hm10 hE hb9
  go_wp2_with fail
  go_end0
  obtain ⟨hb2, H2, hrw, hsz3, hg3, hbase, hsz2⟩ := HC.out
  obtain ⟨ho9, ht9, hd9⟩ := HD.out
  obtain ⟨hg10, hm10⟩ := HF.out
  have hcs : cellsS (lst s) ++ [.int .i64 (f.1 : Int), .bool f.2] = cellsS (lst s ++ [f]) := by rw [cellsS_append]; rfl
  rw [hcs] at ho9
  have ht29 : Turn ((wa.alloc (.cells #[.int .i64 (s.1 : Int), .bool s.2] 63)).alloc (.cells #[.int .i64 (f.1 : Int), .bool f.2] 63)) w9 (fun b => b = mb ∨ ∃ off, (hd s).1 = some ⟨b, off, none⟩) :=
    ((Turn.of_grown hg3).mono (fun x _ e => by injection e with e; exact .inl e.symm)).trans ht9 (fun x _ e => .inr e)
  refine ⟨rfl, ⟨_, (Back.app H2 hs ho9 ht29 (fun g off e => ?_) hm10 hg10).weak fun b hb => .inl hb⟩, ?_⟩
  · rcases hd9 g off e with h1 | h1
    · exact .inl h1
    · exact .inr (by omega)
  · exact ((Turn.of_below hb2 _).trans ht29 (fun x _ e => e)).trans (Turn.of_grown hg10) (fun x _ e => by injection e with e; exact .inl e.symm)
end Go.Proofs.Ytaibdlnolpbpiaa
/- sep's view.far: what its loops keep. No condition. -/
namespace Go.Proofs.Ytaibdlnolpbpiaa
open Go.RowKit

/-- the states, those of the first p points -/
def fromsL (p : Nat) : List St := (List.range p).flatMap fun q => [(q, false), (q, true)]
theorem fromsL_succ (p : Nat) : fromsL (p + 1) = fromsL p ++ [(p, false), (p, true)] := by unfold fromsL; rw [List.range_succ, List.flatMap_append]; simp
theorem fromsL_length : ∀ p, (fromsL p).length = 2 * p
  | 0 => rfl
  | p + 1 => by rw [fromsL_succ, List.length_append, fromsL_length p]; simp; omega
theorem mem_fromsL {p : Nat} {s : St} : s ∈ fromsL p ↔ s.1 < p := by
  unfold fromsL
  rw [List.mem_flatMap]
  constructor
  · rintro ⟨q, hq, hs⟩
    rw [List.mem_range] at hq
    simp at hs
    rcases hs with rfl | rfl <;> exact hq
  · intro h
    refine ⟨s.1, List.mem_range.2 h, ?_⟩
    obtain ⟨p, u⟩ := s
    cases u <;> simp
/-- of some states those that lead to another one -/
noncomputable def backL (G : List (List Nat)) (Z : List Int) (F : List St) (t : St) : List St := F.filter fun f => decide (t ∈ nextL G Z f)
theorem backL_snoc (G : List (List Nat)) (Z : List Int) (F : List St) (f t : St) : backL G Z (F ++ [f]) t = backL G Z F t ++ if t ∈ nextL G Z f then [f] else [] := by
  unfold backL
  rw [List.filter_append]
  by_cases h : t ∈ nextL G Z f <;> simp [h]
theorem backL_length (G : List (List Nat)) (Z : List Int) (F : List St) (t : St) : (backL G Z F t).length ≤ F.length := List.length_filter_le _ _
theorem mem_backL {G : List (List Nat)} {Z : List Int} {F : List St} {f t : St} : f ∈ backL G Z F t ↔ f ∈ F ∧ t ∈ nextL G Z f := by
  unfold backL; rw [List.mem_filter, decide_eq_true_iff]
theorem back_all {G : List (List Nat)} {Z : List Int} {n : Nat} (hG : G.length = n) (hg : GoodG G) {s f : St} : f ∈ backL G Z (fromsL n) s ↔ Nx G (Zp Z) (Ap G Z) f s := by
  rw [mem_backL, mem_fromsL]
  constructor
  · rintro ⟨h1, h2⟩; exact (mem_nextL (by rw [hG]; exact h1)).1 h2
  · intro h
    have := (Nx.lt hg h).1
    exact ⟨by rw [← hG]; exact this, (mem_nextL this).2 h⟩
theorem nextL_nodup {G : List (List Nat)} {Z : List Int} {s : St} (hs : s.1 < G.length) (h : (nth G s.1).Nodup) : (nextL G Z s).Nodup := by
  unfold nextL
  split
  · exact List.nodup_nil
  · rw [List.nodup_append]
    refine ⟨?_, ?_, ?_⟩
    · split
      · rw [List.nodup_iff_pairwise_ne, List.pairwise_map]
        exact (List.nodup_iff_pairwise_ne.1 h).imp fun hne e => hne (by injection e)
      · exact List.nodup_nil
    · split
      · exact List.nodup_nil
      · rw [List.nodup_iff_pairwise_ne, List.pairwise_map]
        exact (List.nodup_iff_pairwise_ne.1 (kids_nodup hs)).imp fun hne e => hne (by injection e)
    · intro a ha b hb e
      subst e
      split at ha
      · split at hb
        · simp at hb
        · obtain ⟨x, _, rfl⟩ := List.mem_map.1 ha
          obtain ⟨y, _, e⟩ := List.mem_map.1 hb
          injection e with _ e; cases e
      · simp at ha
theorem nextL_bnd {G : List (List Nat)} {Z : List Int} (hg : GoodG G) {s t : St} (hs : s.1 < G.length) (h : t ∈ nextL G Z s) : t.1 < G.length := (Nx.lt hg ((mem_nextL hs).1 h)).2

theorem clo_far (B n mb sb fb c0 : Nat) (lst0 : St → List St) (f : St) (hn : n * 64 ≤ 140737488351232) (hB : B ≤ mb) (hl0 : ∀ t, (lst0 t).length ≤ 2 * n) (hc0 : c0 + 2 * n < maxLen) :
    Clo B n 69 #[.pointer (some ⟨sb, 0, none⟩), .pointer (some ⟨fb, 0, none⟩)] (fun L => L.Nodup ∧ L.length ≤ 2 * n)
      (fun K L w => ∃ cnt hd, Back n (fun b => K b ∨ b = sb ∨ b = fb) mb cnt hd (fun t => lst0 t ++ if t ∈ L then [f] else []) w ∧ RowC w sb 86 [.map (some mb)] ∧ RowC w fb 63 [.int .i64 (f.1 : Int), .bool f.2] ∧ cnt ≤ c0 + L.length) where
  step := by
    rintro K L s w hs ⟨hnd, hlen⟩ ⟨cnt, hd, hbk, hsb, hfb, hc⟩
    rw [List.length_append] at hlen
    have hlen1 : L.length + 1 ≤ 2 * n := hlen
    have hsL : s ∉ L := fun h => by
      rw [List.nodup_append] at hnd
      exact hnd.2.2 s h s (by simp) rfl
    have hls : lst0 s ++ (if s ∈ L then [f] else []) = lst0 s := by rw [if_neg hsL, List.append_nil]
    refine (bapp_any n _ mb cnt sb fb hd _ s f w hn hs (by omega) (by rw [hls]; have := hl0 s; omega) hbk hsb hfb).mono ?_
    rintro e w' ⟨rfl, ⟨hd', hb'⟩, ht⟩
    have hT : ∀ b, (K b ∨ b = sb ∨ b = fb) → b < w.heap.size ∧ ¬ (b = mb ∨ ∃ off, (hd s).1 = some ⟨b, off, none⟩) := fun b hb => by
      obtain ⟨h1, h2, h3⟩ := hbk.kx b hb
      exact ⟨h1, fun h => h.elim h2 fun ⟨off, e⟩ => h3 s off hs e⟩
    have hml := hbk.map.lt
    refine ⟨rfl, ⟨cnt + 1, hd', hb'.congr fun t _ => ?_, hsb.turn ht (hT sb (.inr (.inl rfl))).2, hfb.turn ht (hT fb (.inr (.inr rfl))).2, by rw [List.length_append]; show cnt + 1 ≤ c0 + (L.length + 1); omega⟩, ht.below (by omega) fun x hx h => ?_, fun b hb => ht.block b (hT b (.inl hb)).1 (hT b (.inl hb)).2⟩
    · show (if t = s then (lst0 s ++ (if s ∈ L then [f] else [])) ++ [f] else lst0 t ++ (if t ∈ L then [f] else [])) = lst0 t ++ (if t ∈ L ++ [s] then [f] else [])
      by_cases h : t = s
      · subst h
        rw [if_pos rfl, hls, if_pos (show t ∈ L ++ [t] by simp)]
      · rw [if_neg h]
        congr 1
        by_cases h2 : t ∈ L
        · rw [if_pos h2, if_pos (show t ∈ L ++ [s] by simp [h2])]
        · rw [if_neg h2, if_neg (show ¬ t ∈ L ++ [s] by simp [h2, h])]
    · rcases h with h | ⟨off, e⟩
      · omega
      · have := (hbk.row hs e).1; omega
  ent := enters_of Try.func69 (by kernel_rfl) rfl
  grow := by
    rintro K L w w' ⟨cnt, hd, hbk, hsb, hfb, hc⟩ hb
    refine ⟨cnt, hd, (hbk.step hb).weak fun b h => ?_, hsb.below' hb, hfb.below' hb, hc⟩
    rcases h with (h | h) | h | h
    · exact .inl (.inl h)
    · exact .inr h
    · exact .inl (.inr (.inl h))
    · exact .inl (.inr (.inr h))
  weak := by
    rintro K K' L w ⟨cnt, hd, hbk, hsb, hfb, hc⟩ hk
    exact ⟨cnt, hd, hbk.weak fun b h => h.elim (fun h => .inl (hk b h)) .inr, hsb, hfb, hc⟩
  bnd := by
    rintro K L w b ⟨cnt, hd, hbk, hsb, hfb, hc⟩ hk
    exact (hbk.kx b (.inl hk)).1

theorem MapS.ins {w : World} {b n : Nat} {g : St → Option Int} (h : MapS 63 3 w b n g) (hn : n < maxLen) {s : St} (hok : okS s) (c : Int) (hwc : (Lit.int .i64 c).wf = true) :
    ∃ w', (Instr.mapUpdate 60 (.map (some b)) (.agg #[.int .i64 (s.1 : Int), .bool s.2]) (.int .i64 c)).run Try.prog w = .ok () w' ∧ MapS 63 3 w' b (n + 1) (putS g s c) ∧ w.grownBy w' (some b) := by
  obtain ⟨D, hD, q⟩ := h
  obtain ⟨w', h1, h2, h3⟩ := hD.update law63 Try.underlying60 hn (keyOf_sV hok) (plainElem_int Try.underlying3 hwc)
  refine ⟨w', h1, MapF.congr ⟨_, h2, fun y => ?_⟩ (putF_liftS g hok c), h3⟩
  unfold putF
  by_cases hy : y = kS s
  · subst hy
    rw [if_pos rfl, Maps.has_put_same hD.isMap (law63.key (keyOf_sV hok)), Maps.atKey_put_same hD.isMap (law63.key (keyOf_sV hok))]
    exact ⟨rfl, rfl⟩
  · rw [if_neg hy, Maps.has_put_other hy, Maps.atKey_put_other hy]
    exact q y
/-- a map of distances, as Go holds it -/
def intO (O : St → Option Nat) (s : St) : Option Int := (O s).map fun m => (m : Int)
theorem intO_some {O : St → Option Nat} {s : St} {m : Nat} (h : O s = some m) : intO O s = some (m : Int) := by unfold intO; rw [h]; rfl
theorem intO_none {O : St → Option Nat} {s : St} (h : O s = none) : intO O s = none := by unfold intO; rw [h]; rfl
open Classical in
noncomputable def putO (O : St → Option Nat) (t : St) (m : Nat) : St → Option Nat := fun x => if x = t then some m else O x
theorem putO_int (O : St → Option Nat) (t : St) (m : Nat) (x : St) : putS (intO O) t (m : Int) x = intO (putO O t m) x := by
  unfold putS intO putO
  by_cases h : x = t
  · rw [if_pos h, if_pos h]; rfl
  · rw [if_neg h, if_neg h]
theorem start_O (b : Nat) {u v : Bool} (h : u ≠ v) : (∀ x, putS (putS (fun _ => none) (b, u) 0) (b, v) 0 x = intO (putO (putO (fun _ => none) (b, u) 0) (b, v) 0) x) ∧ (∀ y, putO (putO (fun _ => none) (b, u) 0) (b, v) 0 (b, y) = some 0) ∧ ∀ s m, putO (putO (fun _ => none) (b, u) 0) (b, v) 0 s = some m → s.1 = b := by
  refine ⟨fun x => ?_, fun y => ?_, fun s m e => ?_⟩
  · rw [← putO_int]
    congr 1
    funext y
    rw [← putO_int]
    rfl
  · unfold putO
    by_cases h1 : y = v
    · rw [if_pos (by rw [h1])]
    · rw [if_neg (fun e => h1 (by injection e))]
      have h2 : y = u := by cases y <;> cases u <;> cases v <;> simp_all
      rw [if_pos (by rw [h2])]
  · unfold putO at e
    by_cases h1 : s = (b, v)
    · rw [h1]
    · rw [if_neg h1] at e
      by_cases h2 : s = (b, u)
      · rw [h2]
      · rw [if_neg h2] at e; cases e
theorem cellsS_get : ∀ (l : List St) (j : Nat), j < l.length → (cellsS l)[2 * j]? = some (.int .i64 ((nth l j).1 : Int)) ∧ (cellsS l)[2 * j + 1]? = some (.bool (nth l j).2)
  | [], j, h => by simp at h
  | s :: l, 0, _ => ⟨rfl, rfl⟩
  | s :: l, j + 1, h => by
    have := cellsS_get l j (by simpa using h)
    rw [show nth (s :: l) (j + 1) = nth l j from rfl]
    exact this
/-- the search on its way: what was found, in its order; the queue is what of it stands from place pos on -/
structure Fq (B : Nat) (w0 : World) (ob n : Nat) (A : Option Addr) (k c : Nat) (S : List St) (O : St → Option Nat) (pos : Nat) (w : World) : Prop where
  bel : Below B w0 w
  map : MapS 63 3 w ob S.length (intO O)
  oo : OwnQ w (ob + 1) 63 2 A k c (cellsS (S.drop pos))
  nd : S.Nodup
  mem : ∀ s, s ∈ S ↔ (O s).isSome = true
  bnd : ∀ s, s ∈ S → s.1 < n
  ple : pos ≤ S.length
  lt : B ≤ ob
section
variable {B ob n k c pos : Nat} {w0 w w' : World} {A : Option Addr} {S : List St} {O : St → Option Nat}
theorem Fq.k_eq (h : Fq B w0 ob n A k c S O pos w) : k = S.length - pos := by
  have := h.oo.len
  rw [cellsS_length, List.length_drop] at this
  omega
theorem Fq.size_le (h : Fq B w0 ob n A k c S O pos w) : S.length ≤ 2 * n := states_length h.nd h.bnd
theorem Fq.row (h : Fq B w0 ob n A k c S O pos w) {b off : Nat} (e : A = some ⟨b, off, none⟩) : ob < b ∧ b < w.heap.size := by
  rcases h.oo.at_row with h1 | ⟨g', off', h1, h2, h3⟩
  · rw [e] at h1; cases h1
  · rw [e] at h1; injection h1 with h1; injection h1 with h1; omega
theorem Fq.step (h : Fq B w0 ob n A k c S O pos w) (hb : Below w.heap.size w w') : Fq B w0 ob n A k c S O pos w' := by
  have h1 := h.map.lt
  have h2 := h.lt
  exact ⟨h.bel.trans (hb.mono (by omega)), h.map.below hb, h.oo.below hb, h.nd, h.mem, h.bnd, h.ple, h.lt⟩
theorem Fq.alloc (h : Fq B w0 ob n A k c S O pos w) (o : Obj) : Fq B w0 ob n A k c S O pos (w.alloc o) := h.step ((Below.refl _ _).alloc (Nat.le_refl _) o)
theorem Fq.drewN (h : Fq B w0 ob n A k c S O pos w) (m : Nat) : Fq B w0 ob n A k c S O pos (w.drewN m) := h.step (below_refl_drewN _ _ _)
theorem Fq.drew (h : Fq B w0 ob n A k c S O pos w) : Fq B w0 ob n A k c S O pos w.drew := h.drewN 1
/-- the search at its beginning -/
theorem Fq.start {B : Nat} {w0 w : World} {ob n b : Nat} {O : St → Option Nat} (hbel : Below B w0 w) (hm : MapS 63 3 w ob 2 (intO O)) (hO1 : ∀ u, O (b, u) = some 0) (hO2 : ∀ s m, O s = some m → s.1 = b) (hb : b < n) (hlt : B ≤ ob) (hB : B ≤ w.heap.size) :
    Fq B w0 ob n (some ⟨w.heap.size, 0, none⟩) 2 2 [(b, false), (b, true)] O 0 (w.alloc (.cells #[.int .i64 (b : Int), .bool false, .int .i64 (b : Int), .bool true] 63)) := by
  have hr := RowC.new w 63 [.int .i64 (b : Int), .bool false, .int .i64 (b : Int), .bool true]
  have hml := hm.lt
  refine ⟨hbel.alloc hB _, hm.alloc _, ⟨rfl, .inr ⟨w.heap.size, 0, _, rfl, by omega, hr, Nat.le_refl _, by unfold maxLen; omega, by simp, rfl⟩⟩, by simp, fun s => ?_, fun s hs => ?_, by simp, hlt⟩
  · constructor
    · intro h; simp at h; rcases h with rfl | rfl <;> rw [hO1] <;> rfl
    · intro h
      obtain ⟨m, hm⟩ := Option.isSome_iff_exists.1 h
      have := hO2 s m hm
      obtain ⟨q, u⟩ := s
      simp only at this
      subst this
      cases u <;> simp
  · simp at hs; rcases hs with rfl | rfl <;> exact hb
/-- behind a state's being found -/
theorem Fq.found (h : Fq B w0 ob n A k c S O pos w) {t : St} (ht : t.1 < n) (hO : O t = none) {m : Nat} {A9 : Option Addr} {c9 : Nat} {w1 : World} (hm : MapS 63 3 w1 ob (S.length + 1) (putS (intO O) t (m : Int))) (hg : w.grownBy w1 (some ob))
    {o : Obj} {w9 : World} (ho : OwnQ w9 (ob + 1) 63 2 A9 (k + 1) c9 (cellsS (S.drop pos) ++ [.int .i64 (t.1 : Int), .bool t.2])) (htn : Turn (w1.alloc o) w9 (fun b => ∃ off, A = some ⟨b, off, none⟩)) :
    Fq B w0 ob n A9 (k + 1) c9 (S ++ [t]) (putO O t m) pos w9 := by
  have hobl := hm.lt
  have hlt := h.lt
  have h0 := h.map.lt
  have hrow := fun (b off : Nat) => h.row (b := b) (off := off)
  have htS : t ∉ S := fun hs => by have := (h.mem t).1 hs; rw [hO] at this; cases this
  have hb1 : Below B w0 w1 := h.bel.grown hg (by omega) (fun g e => by cases e; exact h.lt)
  refine ⟨(hb1.alloc (by have := hg.size; omega) o).trans (htn.below (by have := hg.size; simp; omega) fun x hx ⟨off, e⟩ => by have := (hrow x off e).1; omega), ?_, ?_, ?_, fun s => ?_, fun s hs => ?_, by rw [List.length_append]; have := h.ple; omega, h.lt⟩
  · rw [List.length_append]
    exact ((hm.alloc o).turn htn (fun ⟨off, e⟩ => by have := (hrow ob off e).1; omega)).congr (putO_int O t m)
  · rw [List.drop_append_of_le_length h.ple, cellsS_append]; exact ho
  · rw [List.nodup_append]
    exact ⟨h.nd, by simp, fun a ha b hb => by rw [List.mem_singleton] at hb; subst hb; rintro rfl; exact htS ha⟩
  · unfold putO
    rw [List.mem_append, List.mem_singleton, h.mem]
    by_cases e : s = t
    · rw [if_pos e]; simp [e]
    · rw [if_neg e]; simp [e]
  · rcases List.mem_append.1 hs with hs | hs
    · exact h.bnd s hs
    · rw [List.mem_singleton] at hs; subst hs; exact ht
end
/-- the first one of the queue is taken off -/
theorem Bf.pop' {G : List (List Nat)} {Z Ab : Nat → Prop} {b : Nat} {O : St → Option Nat} {q1 q2 : List St} {d : Nat} (h : Bf G Z Ab b O q1 q2 d) {s : St} {R : List St} (e : s :: R = q1 ++ q2) : ∃ q1' q2' d', BfIn G Z Ab b O q1' q2' d' s [] ∧ R = q1' ++ q2' := by
  cases q1 with
  | cons x q1 =>
    injection e with e1 e2
    subst e1
    exact ⟨q1, q2, d, h.pop, e2⟩
  | nil =>
    rw [List.nil_append] at e
    subst e
    exact ⟨R, [], d + 1, h.turn.pop, by simp⟩
end Go.Proofs.Ytaibdlnolpbpiaa
/- sep.Trail's closure, walked: the least point among those that are one step nearer. Conditions: the captured variables are the call's own. -/
namespace Go.Proofs.Ytaibdlnolpbpiaa
open Go.RowKit

/-- the better one of two states -/
def best1 (O : St → Option Nat) (m : Nat) (t s : St) : St := if O s = some m ∧ s.1 < t.1 then s else t
def bestF (n : Nat) (O : St → Option Nat) (m : Nat) (L : List St) : St := L.foldl (best1 O m) (n, false)
theorem bestF_snoc (n : Nat) (O : St → Option Nat) (m : Nat) (L : List St) (s : St) : bestF n O m (L ++ [s]) = best1 O m (bestF n O m L) s := by simp [bestF]
theorem bestF_le (n : Nat) (O : St → Option Nat) (m : Nat) (L : List St) : (bestF n O m L).1 ≤ n := by
  obtain ⟨k, hk⟩ : ∃ k, k = L.length := ⟨_, rfl⟩
  induction k generalizing L with
  | zero => rw [List.eq_nil_of_length_eq_zero hk.symm]; exact Nat.le_refl _
  | succ k ih =>
    rcases List.eq_nil_or_concat L with rfl | ⟨L', s, rfl⟩
    · simp at hk
    · rw [List.concat_eq_append, bestF_snoc]
      have := ih L' (by simpa using hk)
      unfold best1
      split
      · rename_i h; omega
      · exact this
theorem bestF_spec (n : Nat) (O : St → Option Nat) (m : Nat) (L : List St) : (∀ r, r ∈ L → O r = some m → (bestF n O m L).1 ≤ r.1) ∧ (bestF n O m L = (n, false) ∨ (bestF n O m L ∈ L ∧ O (bestF n O m L) = some m)) := by
  obtain ⟨k, hk⟩ : ∃ k, k = L.length := ⟨_, rfl⟩
  induction k generalizing L with
  | zero => rw [List.eq_nil_of_length_eq_zero hk.symm]; exact ⟨by simp, .inl rfl⟩
  | succ k ih =>
    rcases List.eq_nil_or_concat L with rfl | ⟨L', s, rfl⟩
    · simp at hk
    · rw [List.concat_eq_append, bestF_snoc]
      obtain ⟨h1, h2⟩ := ih L' (by simpa using hk)
      unfold best1
      split
      · rename_i h
        refine ⟨fun r hr hO => ?_, .inr ⟨by simp, h.1⟩⟩
        rcases List.mem_append.1 hr with hr | hr
        · have := h1 r hr hO; omega
        · rw [List.mem_singleton] at hr; subst hr; exact Nat.le_refl _
      · rename_i h
        refine ⟨fun r hr hO => ?_, ?_⟩
        · rcases List.mem_append.1 hr with hr | hr
          · exact h1 r hr hO
          · rw [List.mem_singleton] at hr; subst hr
            rcases Nat.lt_or_ge r.1 (bestF n O m L').1 with h3 | h3
            · exact absurd ⟨hO, h3⟩ h
            · exact h3
        · rcases h2 with h2 | h2
          · exact .inl h2
          · exact .inr ⟨by simp [h2.1], h2.2⟩
theorem MapS.look_run {w : World} {b n : Nat} {g : St → Option Int} (h : MapS 63 3 w b n g) {s : St} (hok : okS s) {c : Int} (hc : g s = some c) : (Instr.lookup 60 (.map (some b)) (.agg #[.int .i64 (s.1 : Int), .bool s.2]) false).run Try.prog w = .ok (.int .i64 c) w := by
  obtain ⟨D, hD, q⟩ := h
  obtain ⟨d, hrun, hat, _⟩ := hD.lookup_int law63 Try.underlying60 Try.underlying3 (zeroI w) (keyOf_sV hok)
  rw [(q (kS s)).2, liftS_kS _ hok, hc] at hat
  have : d = c := (Lit.int.inj (DataW.lit.inj hat)).2.symm
  rw [← this]; exact hrun
/-- what the closure finds and leaves -/
structure Tb (B n ob cnt fvb nb bb : Nat) (O : St → Option Nat) (s0 : St) (K : Nat → Prop) (t : St) (w : World) : Prop where
  map : MapS 63 3 w ob cnt (intO O)
  fv : RowC w fvb 60 [.map (some ob)]
  now : RowC w nb 63 [.int .i64 (s0.1 : Int), .bool s0.2]
  best : RowC w bb 63 [.int .i64 (t.1 : Int), .bool t.2]
  ne1 : ob ≠ bb
  ne2 : fvb ≠ bb
  ne3 : nb ≠ bb
  le : B ≤ bb
  far : ∀ b, K b → b < w.heap.size ∧ b ≠ bb
section
variable {B n ob cnt fvb nb bb : Nat} {O : St → Option Nat} {s0 t : St} {K K' : Nat → Prop} {w w' : World}
theorem Tb.step (h : Tb B n ob cnt fvb nb bb O s0 K t w) (hb : Below w.heap.size w w') : Tb B n ob cnt fvb nb bb O s0 (fun b => K b ∨ (w.heap.size ≤ b ∧ b < w'.heap.size)) t w' := by
  have h1 := h.best.lt
  refine ⟨h.map.below hb, h.fv.below' hb, h.now.below' hb, h.best.below' hb, h.ne1, h.ne2, h.ne3, h.le, fun b hk => ?_⟩
  rcases hk with hk | hk
  · obtain ⟨f1, f2⟩ := h.far b hk
    exact ⟨Nat.lt_of_lt_of_le f1 hb.size, f2⟩
  · exact ⟨hk.2, by omega⟩
theorem Tb.weak (h : Tb B n ob cnt fvb nb bb O s0 K t w) (hk : ∀ b, K' b → K b) : Tb B n ob cnt fvb nb bb O s0 K' t w := ⟨h.map, h.fv, h.now, h.best, h.ne1, h.ne2, h.ne3, h.le, fun b hb => h.far b (hk b hb)⟩
theorem Tb.put (h : Tb B n ob cnt fvb nb bb O s0 K t w) (s : St) : Tb B n ob cnt fvb nb bb O s0 K s ((w.setCell ⟨bb, 0, none⟩ (.int .i64 (s.1 : Int))).setCell ⟨bb, 1, none⟩ (.bool s.2)) := by
  refine ⟨(h.map.setCell (by simpa using h.ne1) _).setCell (by simpa using h.ne1) _, (h.fv.far (by simpa using h.ne2) _).far (by simpa using h.ne2) _, (h.now.far (by simpa using h.ne3) _).far (by simpa using h.ne3) _, (h.best.put 0 _).put 1 _, h.ne1, h.ne2, h.ne3, h.le, fun b hk => ?_⟩
  obtain ⟨f1, f2⟩ := h.far b hk
  exact ⟨by simpa [World.setCell] using f1, f2⟩
end
def BestPost (B n ob cnt fvb nb bb m : Nat) (O : St → Option Nat) (s0 : St) (K : Nat → Prop) (t s : St) (w : World) (e : Ending) (w' : World) : Prop :=
  e = .returned (.tuple #[]) ∧ Tb B n ob cnt fvb nb bb O s0 K (best1 O m t s) w' ∧ Below B w w' ∧ ∀ b, K b → w'.heap[b]? = w.heap[b]?

set_option maxRecDepth 100000 in
set_option maxHeartbeats 800000 in
theorem best_any (B n ob cnt fvb nb bb m : Nat) (O : St → Option Nat) (s0 : St) (K : Nat → Prop) (t s : St) (w : World) (hn : n * 64 ≤ 140737488351232) (hs : s.1 < n) (hs0 : s0.1 < n) (h0 : O s0 = some (m + 1)) (hm : m < n) (hOn : ∀ x k, O x = some k → k < n) (h : Tb B n ob cnt fvb nb bb O s0 K t w) :
    Calls Try.prog 46 #[sV s, .pointer (some ⟨fvb, 0, none⟩), .pointer (some ⟨nb, 0, none⟩), .pointer (some ⟨bb, 0, none⟩)] w (BestPost B n ob cnt fvb nb bb m O s0 K t s w) := by
  obtain ⟨wa, hwa⟩ : ∃ wa : World, wa = w := ⟨_, rfl⟩
  subst hwa
  have hok : okS s := by unfold okS; omega
  have hok0 : okS s0 := by unfold okS; omega
  have hb0 : Below wa.heap.size wa (wa.alloc (.cells #[.int .i64 (s.1 : Int), .bool s.2] 63)) := (Below.refl _ _).alloc (Nat.le_refl _) _
  have H1 := h.step hb0
  have hBs : B ≤ wa.heap.size := by have := h.le; have := h.best.lt; omega
  have hbn := RowC.new wa 63 [.int .i64 (s.1 : Int), .bool s.2]
  have q0 := hbn.cell 0
  have q1 := hbn.cell 1
  have f0 := H1.fv.cell 0
  have n0 := H1.now.cell 0
  have n1 := H1.now.cell 1
  have b0 := H1.best.cell 0
  have b1 := H1.best.cell 1
  have z0 := H1.best.frozen 0
  have z1 := H1.best.frozen 1
  simp only [List.getElem?_cons_zero, List.getElem?_cons_succ] at q0 q1 f0 n0 n1 b0 b1
  have hmap := H1.map
  have hlk := hmap.look_run hok0 (intO_some h0)
  have hwr : IntKind.i64.wrap (((m + 1 : Nat) : Int) - 1) = (m : Int) := by rw [IntKind.wrap_i64]; omega
  have hbm := hb0.mono hBs
  have hK0 : ∀ b, K b → (wa.alloc (.cells #[.int .i64 (s.1 : Int), .bool s.2] 63)).heap[b]? = wa.heap[b]? := fun b hk => hb0.block b (h.far b hk).1
  have HH := Lib.hid (And.intro H1 (And.intro hbm (And.intro hK0 (And.intro h.le hBs))))
  clear H1 hbm hK0 hb0 h hbn hBs
  have hdone : ∀ x, best1 O m t s = x → Tb B n ob cnt fvb nb bb O s0 K x (wa.alloc (.cells #[.int .i64 (s.1 : Int), .bool s.2] 63)) → BestPost B n ob cnt fvb nb bb m O s0 K t s wa (.returned (.tuple #[])) (wa.alloc (.cells #[.int .i64 (s.1 : Int), .bool s.2] 63)) := by
    rintro x rfl hx
    exact ⟨rfl, hx, HH.out.2.1, HH.out.2.2.1⟩
  have HDn := Lib.hid hdone
  clear hdone
  cases hO : O s with
  | none =>
    have hl := Lib.hid (intO_none hO)
    have hbe : best1 O m t s = t := by unfold best1; rw [if_neg (fun h => by rw [hO] at h; cases h.1)]
    have HB := Lib.hid hbe
    clear hO hbe
    go_enter Try.func46, Try.ntmps46
    go_wp2_with (first
      | (at_lookup; refine wpList_look_ok_S _ rfl _ _ 60 rfl 3 Try.underlying60 Try.underlying3 (zeroI _) ob _ _ rfl hmap s rfl hok ?_; rw [hl.out])
      | fail)
    go_end0
    exact HDn.out t HB.out (HH.out.1.weak fun b hb => .inl hb)
  | some k =>
    have hl := Lib.hid (intO_some hO)
    have hkn := hOn s k hO
    by_cases hkm : k = m
    · subst hkm
      by_cases hlt : s.1 < t.1
      · have hbe : best1 O k t s = s := by unfold best1; rw [if_pos ⟨hO, hlt⟩]
        have hp := (HH.out.1.put s).weak fun b hb => .inl hb
        have hbp : Below B wa (((wa.alloc (.cells #[.int .i64 (s.1 : Int), .bool s.2] 63)).setCell ⟨bb, 0, none⟩ (.int .i64 (s.1 : Int))).setCell ⟨bb, 1, none⟩ (.bool s.2)) :=
          (HH.out.2.1.setCell (p := ⟨bb, 0, none⟩) HH.out.2.2.2.1 _).setCell (p := ⟨bb, 1, none⟩) HH.out.2.2.2.1 _
        have hkp : ∀ b, K b → (((wa.alloc (.cells #[.int .i64 (s.1 : Int), .bool s.2] 63)).setCell ⟨bb, 0, none⟩ (.int .i64 (s.1 : Int))).setCell ⟨bb, 1, none⟩ (.bool s.2)).heap[b]? = wa.heap[b]? := fun b hb => by
          have hne := (HH.out.1.far b (.inl hb)).2
          rw [← HH.out.2.2.1 b hb]
          exact (Below.heap_setCell _ _ _ _ hne).trans (Below.heap_setCell _ _ _ _ hne)
        have HP := Lib.hid (And.intro hbe (And.intro hp (And.intro hbp hkp)))
        have hlt' : ((s.1 : Nat) : Int) < ((t.1 : Nat) : Int) := by omega
        clear hO hbe hp hbp hkp hkn
        go_enter Try.func46, Try.ntmps46
        go_wp2_with (first
          | (at_lookup; refine wpList_look_ok_S _ rfl _ _ 60 rfl 3 Try.underlying60 Try.underlying3 (zeroI _) ob _ _ rfl hmap s rfl hok ?_; rw [hl.out])
          | fail)
        go_end0
        exact ⟨rfl, by rw [HP.out.1]; exact HP.out.2.1, HP.out.2.2.1, HP.out.2.2.2⟩
      · have hbe : best1 O k t s = t := by unfold best1; rw [if_neg (fun h => hlt h.2)]
        have HP := Lib.hid hbe
        have hlt' : ¬ ((s.1 : Nat) : Int) < ((t.1 : Nat) : Int) := by omega
        clear hO hbe hkn
        go_enter Try.func46, Try.ntmps46
        go_wp2_with (first
          | (at_lookup; refine wpList_look_ok_S _ rfl _ _ 60 rfl 3 Try.underlying60 Try.underlying3 (zeroI _) ob _ _ rfl hmap s rfl hok ?_; rw [hl.out])
          | fail)
        go_end0
        exact HDn.out t HP.out (HH.out.1.weak fun b hb => .inl hb)
    · have hbe : best1 O m t s = t := by unfold best1; rw [if_neg (fun h => hkm (by rw [hO] at h; injection h.1))]
      have HP := Lib.hid hbe
      have hne : ¬ ((k : Nat) : Int) = ((m : Nat) : Int) := by omega
      clear hO hbe hkn
      go_enter Try.func46, Try.ntmps46
      go_wp2_with (first
        | (at_lookup; refine wpList_look_ok_S _ rfl _ _ 60 rfl 3 Try.underlying60 Try.underlying3 (zeroI _) ob _ _ rfl hmap s rfl hok ?_; rw [hl.out])
        | fail)
      go_end0
      exact HDn.out t HP.out (HH.out.1.weak fun b hb => .inl hb)
end Go.Proofs.Ytaibdlnolpbpiaa
/- sep's view.far, walked: how many steps lie between each state and a point. Conditions: the view and the point within Go's bound. -/
namespace Go.Proofs.Ytaibdlnolpbpiaa
open Go.RowKit

def FarPost (G : List (List Nat)) (Z : List Int) (n b : Nat) (w : World) (e : Ending) (w' : World) : Prop :=
  ∃ ob cnt O, e = .returned (.map (some ob)) ∧ w.heap.size ≤ ob ∧ MapS 63 3 w' ob cnt (intO O) ∧ FarOk G (Zp Z) (Ap G Z) b O ∧ (∀ s k, O s = some k → s.1 < n) ∧ Below w.heap.size w w'
/-- the first loop on its way -/
structure Fi (n vb sb mb cnt : Nat) (vc : List Value) (kx : Nat → Prop) (hd : St → Hd) (lst : St → List St) (wa wr : World) : Prop where
  bk : Back n (fun b => kx b ∨ b = vb ∨ b = sb) mb cnt hd lst wr
  view : RowC wr vb 57 vc
  sc : RowC wr sb 86 [.map (some mb)]
  bel : Below vb wa wr
theorem Fi.alloc {n vb sb mb cnt : Nat} {vc : List Value} {kx : Nat → Prop} {hd : St → Hd} {lst : St → List St} {wa wr : World} (h : Fi n vb sb mb cnt vc kx hd lst wa wr) (o : Obj) : Fi n vb sb mb cnt vc (fun b => kx b ∨ b = wr.heap.size) hd lst wa (wr.alloc o) := by
  have hb : Below wr.heap.size wr (wr.alloc o) := (Below.refl _ _).alloc (Nat.le_refl _) o
  have hl := h.view.lt
  refine ⟨(h.bk.step hb).weak fun b h => ?_, h.view.alloc o, h.sc.alloc o, h.bel.alloc (by omega) o⟩
  rcases h with (h | h) | h | h
  · exact .inl (.inl h)
  · refine .inr ⟨by omega, by simp; omega⟩
  · exact .inl (.inr (.inl h))
  · exact .inl (.inr (.inr h))

set_option maxRecDepth 100000 in
set_option maxHeartbeats 1600000 in
theorem far_any (G : List (List Nat)) (Z : List Int) (A B1 D E : Option Addr) (n k1 k2 c1 c2 c3 c4 b : Nat) (w : World) (hv : View w G Z A B1 D E n k1 k2) (hG : G.length = n) (hg : GoodG G) (hnd : ∀ p, p < n → (nth G p).Nodup) (hab : AbOk G (Zp Z) (Ap G Z)) (hb : b < n) (hn : n ≤ 1048576) :
    Calls Try.prog 44 #[.agg #[.slice A n c1, .slice B1 n c2, .slice D k1 c3, .slice E k2 c4], .int .i64 (b : Int)] w (FarPost G Z n b w) := by
  obtain ⟨wa, hwa⟩ : ∃ wa : World, wa = w := ⟨_, rfl⟩
  subst hwa
  have hn4 : n * (4 * n) ≤ 4611686018427387904 := Nat.le_trans (Nat.mul_le_mul hn (Nat.mul_le_mul_left 4 hn)) (by decide)
  have hmm := fun (w : World) => run_makeMap (P := Try.prog) 86 w
  have hF0 : Fi n wa.heap.size (wa.heap.size + 1 + 1) (wa.heap.size + 1) 0 [.slice A n c1, .slice B1 n c2, .slice D k1 c3, .slice E k2 c4] (fun _ => False) (fun _ => hd0) (backL G Z (fromsL 0)) wa
      (((wa.alloc (.cells #[.slice A n c1, .slice B1 n c2, .slice D k1 c3, .slice E k2 c4] 57)).alloc (.map #[] 0)).alloc (.cells #[.map (some (wa.heap.size + 1))] 86)) := by
    have hB0 : Below wa.heap.size wa (wa.alloc (.cells #[.slice A n c1, .slice B1 n c2, .slice D k1 c3, .slice E k2 c4] 57)) := (Below.refl _ _).alloc (Nat.le_refl _) _
    have hM := Back.made (wa.alloc (.cells #[.slice A n c1, .slice B1 n c2, .slice D k1 c3, .slice E k2 c4] 57)) n (kx := fun b => b = wa.heap.size) (fun b hb => by subst hb; simp)
    rw [show (wa.alloc (.cells #[.slice A n c1, .slice B1 n c2, .slice D k1 c3, .slice E k2 c4] 57)).heap.size = wa.heap.size + 1 from by simp] at hM
    have hM2 := hM.step ((Below.refl _ _).alloc (Nat.le_refl _) (.cells #[.map (some (wa.heap.size + 1))] 86))
    refine ⟨(hM2.weak fun b h => ?_).congr (fun s _ => by simp [backL, fromsL]), ((RowC.new wa _ _).alloc _).alloc _, ?_, (hB0.alloc (by simp) _).alloc (by simp; omega) _⟩
    · rcases h with h | h | h
      · exact h.elim
      · exact .inl h
      · exact .inr ⟨by simp; omega, by simp; omega⟩
    · have := RowC.new ((wa.alloc (.cells #[.slice A n c1, .slice B1 n c2, .slice D k1 c3, .slice E k2 c4] 57)).alloc (.map #[] 0)) 86 [.map (some (wa.heap.size + 1))]
      simpa using this
  have v0 := hF0.view.cell 0
  have v1 := hF0.view.cell 1
  have v2 := hF0.view.cell 2
  have v3 := hF0.view.cell 3
  simp only [List.getElem?_cons_zero, List.getElem?_cons_succ] at v0 v1 v2 v3
  have HF := Lib.hid hF0; clear hF0
  have HI := Lib.hid (And.intro hG (And.intro hg (And.intro hv hnd))); clear hG hg hv hnd
  have HAB := Lib.hid hab; clear hab
  go_enter Try.func44, Try.ntmps44
  go_wp2_with fail
  generalize ((wa.alloc (.cells #[.slice A n c1, .slice B1 n c2, .slice D k1 c3, .slice E k2 c4] 57)).alloc (.map #[] 0)).alloc (.cells #[.map (some (wa.heap.size + 1))] 86) = wx at *
  clear v0 v1 v2 v3
  generalize hps : wa.heap.size = p at *
  go_loopw [21] (fun i wr => ∃ (k cnt : Nat) (hd : St → Hd), i = .int .i64 (k : Nat) ∧ k ≤ n ∧ cnt ≤ k * (4 * n) ∧ Fi n p (p + 1 + 1) (p + 1) cnt [.slice A n c1, .slice B1 n c2, .slice D k1 c3, .slice E k2 c4] (fun _ => False) hd (backL G Z (fromsL k)) wa wr) (fun i _ => n - (intOf i).toNat)
  case atStart => exact ⟨0, 0, _, rfl, Nat.zero_le _, Nat.zero_le _, HF.out⟩
  case round =>
    obtain ⟨k, cnt, hd, rfl, hk, hcnt, hfi⟩ := hrel
    obtain ⟨wb, hwb⟩ : ∃ wb : World, wb = wr := ⟨_, rfl⟩
    subst hwb
    by_cases hlt : k < n
    · have hf1 := hfi.alloc (.cells #[.bool false, .bool true] 4)
      have hq1 := RowC.new wb 4 [.bool false, .bool true]
      have HA := Lib.hid (And.intro hf1 (And.intro hq1 hcnt)); clear hf1 hq1 hfi hcnt
      go_wp2_with fail
      generalize wb.alloc (.cells #[.bool false, .bool true] 4) = wy at *
      generalize hxb : wb.heap.size = xb at *
      go_loopw [26] (fun j wr => ∃ (q cnt : Nat) (hd : St → Hd), j = .int .i64 (q : Nat) ∧ q ≤ 2 ∧ cnt ≤ k * (4 * n) + q * (2 * n) ∧ Fi n p (p + 1 + 1) (p + 1) cnt [.slice A n c1, .slice B1 n c2, .slice D k1 c3, .slice E k2 c4] (fun b => b = xb) hd (backL G Z (fromsL k ++ ([false, true].map fun u => (k, u)).take q)) wa wr ∧ RowC wr xb 4 [.bool false, .bool true]) (fun j _ => 2 - (intOf j).toNat)
      case atStart =>
        obtain ⟨h1, h2, h3⟩ := HA.out
        exact ⟨0, cnt, hd, rfl, by omega, by omega, ⟨(by simpa using h1.bk), h1.view, h1.sc, h1.bel⟩, h2⟩
      case round => as_aux_lemma =>
        obtain ⟨q, cnt2, hd2, rfl, hq, hcnt2, hfi, hrow⟩ := hrel
        obtain ⟨wc, hwc⟩ : ∃ wc : World, wc = wr := ⟨_, rfl⟩
        subst hwc
        by_cases hq2 : q < 2
        · have g0 : wc.cell? ⟨xb, q, none⟩ = some (.bool (nth [false, true] q)) := by
            rw [hrow.cell q]
            rcases (show q = 0 ∨ q = 1 by omega) with rfl | rfl <;> rfl
          have hsn : fromsL k ++ ([false, true].map fun u => ((k, u) : St)).take (q + 1) = (fromsL k ++ ([false, true].map fun u => ((k, u) : St)).take q) ++ [(k, nth [false, true] q)] := by
            rw [take_snoc (by simpa using hq2), List.append_assoc, nth_map _ (by simpa using hq2)]
          have hFl : (fromsL k ++ ([false, true].map fun u => ((k, u) : St)).take q).length ≤ 2 * n := by
            rw [List.length_append, fromsL_length, List.length_take]; simp; omega
          generalize nth [false, true] q = u at *
          generalize fromsL k ++ ([false, true].map fun u => ((k, u) : St)).take q = F at *
          have hf1 := hfi.alloc (.cells #[.int .i64 (k : Int), .bool u] 63)
          have hfb := RowC.new wc 63 [.int .i64 (k : Int), .bool u]
          have hrow1 := hrow.alloc (.cells #[.int .i64 (k : Int), .bool u] 63)
          have hxlt := hrow.lt
          have v0 := hf1.view.cell 0
          have v1 := hf1.view.cell 1
          have v2 := hf1.view.cell 2
          have v3 := hf1.view.cell 3
          have t0 := hfb.cell 0
          have t1 := hfb.cell 1
          simp only [List.getElem?_cons_zero, List.getElem?_cons_succ] at v0 v1 v2 v3 t0 t1
          have hnx := nextL_nodup (Z := Z) (s := (k, u)) (by rw [HI.out.1]; exact hlt) (HI.out.2.2.2 k hlt)
          have hnl : (nextL G Z (k, u)).length ≤ 2 * n := by
            have := states_length hnx (n := G.length) (fun s hs => nextL_bnd HI.out.2.1 (s := (k, u)) (by rw [HI.out.1]; exact hlt) hs)
            rw [HI.out.1] at this; exact this
          have HN := Lib.hid (And.intro hnx hnl)
          clear hnx hnl
          have HX := Lib.hid (And.intro hf1 (And.intro hfb (And.intro hrow1 (And.intro hsn (And.intro hcnt2 (And.intro hFl hxlt))))))
          clear hf1 hfb hrow1 hsn hcnt2 hFl hfi hrow hxlt
          go_wp2_with fail
          obtain ⟨hin1, hin2⟩ := next_lt HI.out.2.1 (p := k) (by rw [HI.out.1]; exact hlt)
          refine (next_any (clo_far p n (p + 1) (p + 1 + 1) wc.heap.size cnt2 (backL G Z F) (k, u) (by omega) (Nat.le_succ p) (fun t => Nat.le_trans (backL_length _ _ _ _) HX.out.2.2.2.2.2.1) ?_) G Z A B1 D E k1 k2 c1 c2 c3 c4 (k, u) hlt (by rw [← HI.out.1]; exact hin1) (by rw [← HI.out.1]; exact hin2) (fun b => b = p ∨ b = xb) [] _ wa HI.out.2.2.1 (Nat.le_of_eq hps) ?_ HX.out.1.bel
            ⟨cnt2, hd2, ?_, HX.out.1.sc, HX.out.2.1, Nat.le_refl _⟩ ?_).mono ?_
          · have h1 := HX.out.2.2.2.2.1
            have h2 : k * (4 * n) ≤ n * (4 * n) := Nat.mul_le_mul_right _ hk
            have h3 : q * (2 * n) ≤ 2 * (2 * n) := Nat.mul_le_mul_right _ hq
            unfold maxLen; omega
          · have := HX.out.1.bel.size; omega
          · refine (HX.out.1.bk.weak fun b h => ?_).congr fun t _ => by simp
            rcases h with (h | h) | h | h
            · exact .inr (.inl h)
            · exact .inl (.inl h)
            · exact .inr (.inr h)
            · exact .inl (.inr h)
          · intro l hl
            rw [List.nil_append] at hl
            exact ⟨HN.out.1.sublist hl.sublist, Nat.le_trans hl.length_le HN.out.2⟩
          · rintro e w9 ⟨rfl, ⟨cnt9, hd9, hbk9, hsc9, hfb9, hc9⟩, hb9, hk9⟩
            have hf9 : Fi n p (p + 1 + 1) (p + 1) cnt9 [.slice A n c1, .slice B1 n c2, .slice D k1 c3, .slice E k2 c4] (fun b => b = xb) hd9 (backL G Z (F ++ [(k, u)])) wa w9 := by
              refine ⟨(hbk9.weak fun b h => ?_).congr fun t _ => ?_, (hk9 p (.inl rfl)).trans HX.out.1.view, hsc9, HX.out.1.bel.trans hb9⟩
              · rcases h with h | h | h
                · exact .inl (.inr h)
                · exact .inl (.inl h)
                · exact .inr (.inl h)
              · rw [backL_snoc, List.nil_append]
            have hr9 : RowC w9 xb 4 [.bool false, .bool true] := (hk9 xb (.inr rfl)).trans HX.out.2.2.1
            rw [← HX.out.2.2.2.1] at hf9
            have hcf : cnt9 ≤ k * (4 * n) + (q + 1) * (2 * n) := by
              have h1 := HX.out.2.2.2.2.1
              have h2 := HN.out.2
              rw [List.nil_append] at hc9
              rw [Nat.succ_mul q (2 * n)]
              have h3 : cnt9 ≤ cnt2 + (nextL G Z (k, u)).length := hc9
              exact Nat.le_trans h3 (Nat.le_trans (Nat.add_le_add h1 h2) (by rw [Nat.add_assoc]; exact Nat.le_refl _))
            have HZ := Lib.hid (And.intro hf9 (And.intro hr9 hcf))
            clear hf9 hr9 hcf hbk9 hsc9 hfb9 hc9 hb9 hk9 hin1 hin2 v0 v1 v2 v3 t0 t1 g0
            go_wp2_with fail
            exact ⟨⟨q + 1, cnt9, hd9, by go_num, by omega, HZ.out.2.2, HZ.out.1, HZ.out.2.1⟩, by simp [intOf]; omega⟩
        · obtain rfl : q = 2 := by omega
          have HX := Lib.hid (And.intro hfi hcnt2); clear hfi hcnt2 hrow
          go_wp2_with fail
          refine ⟨⟨k + 1, cnt2, hd2, by go_num, by omega, ?_, ⟨HX.out.1.bk.weak (fun b h => h.elim (fun h => h.elim) .inr) |>.congr (fun s _ => ?_), HX.out.1.view, HX.out.1.sc, HX.out.1.bel⟩⟩, by simp [intOf]; omega⟩
          · have := HX.out.2
            rw [Nat.add_mul]; omega
          · rw [fromsL_succ]; rfl
    · obtain rfl : k = n := by omega
      have HX := Lib.hid (And.intro hfi hcnt)
      have hbnat : (b : Int) = (b : Int) := rfl
      clear hfi hcnt hbnat
      have hmm2 := fun (w : World) => run_makeMap (P := Try.prog) 60 w
      have hins : ∀ (u v : Bool), ∃ w1 w2, (Instr.mapUpdate 60 (.map (some wb.heap.size)) (.agg #[.int .i64 (b : Int), .bool u]) (.int .i64 0)).run Try.prog (wb.alloc (.map #[] 0)).drew = .ok () w1 ∧
          (Instr.mapUpdate 60 (.map (some wb.heap.size)) (.agg #[.int .i64 (b : Int), .bool v]) (.int .i64 0)).run Try.prog w1 = .ok () w2 ∧ MapS 63 3 w2 wb.heap.size 2 (putS (putS (fun _ => none) (b, u) 0) (b, v) 0) ∧ Below wb.heap.size wb w2 := fun u v => by
        have h0 : MapS 63 3 (wb.alloc (.map #[] 0)).drew wb.heap.size 0 (fun _ => none) := (MapS.made wb 63 3).drewN 1
        obtain ⟨w1, h1, h2, h3⟩ := h0.ins (by unfold maxLen; omega) (s := (b, u)) (by unfold okS; simp; omega) 0 (by decide)
        obtain ⟨w2, g1, g2, g3⟩ := h2.ins (by unfold maxLen; omega) (s := (b, v)) (by unfold okS; simp; omega) 0 (by decide)
        exact ⟨w1, w2, h1, g1, g2, ((below_drewN ((Below.refl wb.heap.size wb).alloc (Nat.le_refl _) (.map #[] 0)) 1).grown h3 (by simp) (fun g e => by cases e; exact Nat.le_refl _)).grown g3 (by have := h3.size; simp at this; omega) (fun g e => by cases e; exact Nat.le_refl _)⟩
      obtain ⟨wf1, wf2, hf1, hf2, hf3, hf4⟩ := hins false true
      obtain ⟨wt1, wt2, ht1, ht2, ht3, ht4⟩ := hins true false
      have HQ := Lib.hid (And.intro hf3 (And.intro hf4 (And.intro ht3 ht4)))
      clear hins hf3 hf4 ht3 ht4
      go_upto_region 12 with fail
      go_cut [10] from 39 to 45 (fun m wx => m = .map (some wb.heap.size) ∧ ∃ O, MapS 63 3 wx wb.heap.size 2 (intO O) ∧ (∀ u, O (b, u) = some 0) ∧ (∀ s m, O s = some m → s.1 = b) ∧ Below wb.heap.size wb wx)
      case first =>
        go_wp2_with fail
        go_region
        · go_wp2_with fail
          go_meet
          case rel =>
            first
              | exact ⟨rfl, _, (HQ.out.1).congr (start_O b (by decide)).1, (start_O b (by decide)).2.1, (start_O b (by decide)).2.2, HQ.out.2.1⟩
              | exact ⟨rfl, _, (HQ.out.2.2.1).congr (start_O b (by decide)).1, (start_O b (by decide)).2.1, (start_O b (by decide)).2.2, HQ.out.2.2.2⟩
        · go_wp2_with fail
          go_meet
          case rel =>
            first
              | exact ⟨rfl, _, (HQ.out.1).congr (start_O b (by decide)).1, (start_O b (by decide)).2.1, (start_O b (by decide)).2.2, HQ.out.2.1⟩
              | exact ⟨rfl, _, (HQ.out.2.2.1).congr (start_O b (by decide)).1, (start_O b (by decide)).2.1, (start_O b (by decide)).2.2, HQ.out.2.2.2⟩
      case rest => as_aux_lemma =>
        obtain ⟨rfl, O0, hm0, hO1, hO2, hb0⟩ := hcut
        clear hmm hn4 hlt HF hk
        have hsz0 := hb0.size
        have hfq := Fq.start hb0 hm0 hO1 hO2 hb (Nat.le_refl _) hsz0
        have HB0 := Lib.hid (And.intro hfq (And.intro (Bf.begin (G := G) (Z := Zp Z) (Ab := Ap G Z) hO1 hO2) hsz0))
        clear hf1 hf2 ht1 ht2 HQ hm0 hO1 hO2 hb0 hfq hmm2 hsz0
        go_wp2_with fail
        generalize hwz : wc.alloc (.cells #[.int .i64 (b : Int), .bool false, .int .i64 (b : Int), .bool true] 63) = wz at *
        clear hwz
        generalize hob : wb.heap.size = ob at *
        go_loopg [11] (2 * k) (fun gg v wr => ∃ (pos k' c' d : Nat) (A' : Option Addr) (S q1 q2 : List St) (O : St → Option Nat), 2 * k ≤ gg + pos ∧ v = .slice A' k' c' ∧ Aside (Fq ob wb ob k A' k' c' S O pos wr ∧ Bf G (Zp Z) (Ap G Z) b O q1 q2 d ∧ S.drop pos = q1 ++ q2))
        case atStart => exact ⟨0, 2, 2, 0, _, _, _, _, _, by omega, rfl, HB0.out.1, HB0.out.2.1, rfl⟩
        case round => as_aux_lemma =>
          obtain ⟨pos, k', c', d, A', S, q1, q2, O, hgg, rfl, hA⟩ := hrel
          have hA := Lib.hid hA.out
          obtain ⟨wd, hwd⟩ : ∃ wd : World, wd = wr := ⟨_, rfl⟩
          subst hwd
          have hkq := hA.out.1.k_eq
          have hsz := hA.out.1.size_le
          have hple := hA.out.1.ple
          by_cases hpos : pos < S.length
          · have hk0 : 0 < k' := by omega
            have hk1 : (0 : Int) < (k' : Nat) := by omega
            obtain ⟨g, off, rfl, hgb, hgl, hkc, hcell, hfr⟩ := hA.out.1.oo.cells (by omega)
            have g0 := hcell 0 (by omega)
            have g1 := hcell 1 (by omega)
            rw [cellsS_at hpos] at g0 g1
            replace g0 : wd.cell? ⟨g, off, none⟩ = some (.int .i64 ((nth S pos).1 : Int)) := g0
            replace g1 : wd.cell? ⟨g, off + 1, none⟩ = some (.bool (nth S pos).2) := g1
            have hsn := hA.out.1.bnd _ (nth_mem hpos)
            have hdr : S.drop pos = nth S pos :: S.drop (pos + 1) := by rw [List.drop_eq_getElem_cons hpos, ← nth_eq hpos]
            have hqq := hA.out.2.2
            rw [hdr] at hqq
            obtain ⟨r1, r2, d1, hbi, hrr⟩ := hA.out.2.1.pop' hqq
            have hpop := hA.out.1.oo.pop hk0
            rw [cellsS_at hpos, show (∀ (a b : Value) (l : List Value), (a :: b :: l).drop 2 = l) from fun _ _ _ => rfl] at hpop
            generalize nth S pos = s at *
            have hok : okS s := by unfold okS; omega
            obtain ⟨A2, cq2, hq2, hdis⟩ : ∃ A2 cq2, OwnQ wd (ob + 1) 63 2 A2 (k' - 1) cq2 (cellsS (S.drop (pos + 1))) ∧ ((c' = 1 ∧ k' = 1 ∧ A2 = some ⟨g, off, none⟩ ∧ cq2 = 0) ∨ (¬ c' = 1 ∧ A2 = some ⟨g, off + 2, none⟩ ∧ cq2 = c' - 1)) := by
              by_cases hc1 : c' = 1
              · rw [if_pos hc1] at hpop
                exact ⟨_, _, hpop, .inl ⟨hc1, by omega, rfl, by omega⟩⟩
              · rw [if_neg hc1] at hpop
                exact ⟨_, _, hpop, .inr ⟨hc1, by simp [Addr.add_lit], rfl⟩⟩
            have hobd := hA.out.1.bel.size
            have hobt : ob < wd.heap.size := hA.out.1.map.lt
            have hF1 : Fq ob wb ob k A2 (k' - 1) cq2 S O (pos + 1) (wd.alloc (.cells #[.int .i64 (s.1 : Int), .bool s.2] 63)) := Fq.alloc ⟨hA.out.1.bel, hA.out.1.map, hq2, hA.out.1.nd, hA.out.1.mem, hA.out.1.bnd, hpos, hA.out.1.lt⟩ _
            have hT1 := RowC.new wd 63 [.int .i64 (s.1 : Int), .bool s.2]
            have hbw1 : Below ob wb (wd.alloc (.cells #[.int .i64 (s.1 : Int), .bool s.2] 63)) := hF1.bel
            have hsc1 := HX.out.1.sc.below (Nat.le_of_eq hob |> fun h => (show Below wb.heap.size wb (wd.alloc (.cells #[.int .i64 (s.1 : Int), .bool s.2] 63)) from by rw [hob]; exact hbw1)) HX.out.1.sc.lt
            have hmH : MapH (wd.alloc (.cells #[.int .i64 (s.1 : Int), .bool s.2] 63)) (p + 1) cnt hd := HX.out.1.bk.map.below (by rw [hob]; exact hbw1)
            have r0 := hsc1.cell 0
            have t0 := hT1.cell 0
            have t1 := hT1.cell 1
            simp only [List.getElem?_cons_zero, List.getElem?_cons_succ] at r0 t0 t1
            have hown := HX.out.1.bk.own s hsn
            have hlk := hown.len
            rw [cellsS_length] at hlk
            have hbl := backL_length G Z (fromsL k) s
            rw [fromsL_length] at hbl
            obtain ⟨⟨HA9, k9, c9⟩, hhd⟩ : ∃ h, hd s = h := ⟨_, rfl⟩
            rw [hhd] at hown hlk
            simp only at hown hlk
            have hk9 : k9 = (backL G Z (fromsL k) s).length := by omega
            have hk9b : k9 ≤ 2 * k := by omega
            have hgtb : g < wd.heap.size := hgl
            have HR := Lib.hid (And.intro hF1 (And.intro hT1 (And.intro hbi (And.intro hrr (And.intro hown (And.intro hk9 (And.intro hsn hgtb)))))))
            have HHD := Lib.hid hhd
            have HM := Lib.hid (And.intro hkq (And.intro hsz (And.intro hple hpos)))
            clear hF1 hT1 hbi hrr hown hk9 hhd hsn hgtb hbw1 hsc1 hlk hbl hpop hqq hdr hcell hfr hgb hq2 hkq hsz hple hobd hA
            go_upto_region 16 with fail
            go_cut [11] from 56 to 57 (fun v wx => v = .slice A2 (k' - 1) cq2 ∧ wx = wd.alloc (.cells #[.int .i64 (s.1 : Int), .bool s.2] 63))
            case first =>
              rcases hdis with ⟨rfl, rfl, rfl, rfl⟩ | ⟨hc1, rfl, rfl⟩
              · go_wp2_with fail
                go_meet
                case rel => exact ⟨rfl, rfl⟩
              · go_wp2_with fail
                go_meet
                case rel => exact ⟨rfl, rfl⟩
            case rest =>
            obtain ⟨rfl, rfl⟩ := hcut
            have hA2 : ∀ o, A2 ≠ some ⟨wd.heap.size, o, none⟩ := fun o e => by rcases hdis with ⟨_, _, h, _⟩ | ⟨_, h, _⟩ <;> (rw [h] at e; injection e with e; injection e with e; omega)
            have HA2 := Lib.hid hA2
            clear hA2 hdis
            go_wp2_with (first
              | (at_lookup; refine wpList_look_H _ rfl _ _ rfl (p + 1) cnt _ rfl hmH s rfl hok HHD.out ?_)
              | fail)
            clear r0 t0 t1 g0 g1 hmH
            generalize wd.alloc (.cells #[.int .i64 (s.1 : Int), .bool s.2] 63) = we at *
            generalize wd.heap.size = tb at *
            go_loopw [11, 62] (fun v j wr => ∃ (i kk cc : Nat) (AA : Option Addr) (S' : List St) (O' : St → Option Nat) (q2' : List St), j = .int .i64 (i : Nat) ∧ v = .slice AA kk cc ∧ i ≤ k9 ∧ Fq ob wb ob k AA kk cc S' O' (pos + 1) wr ∧ BfIn G (Zp Z) (Ap G Z) b O' r1 q2' d1 s ((backL G Z (fromsL k) s).take i) ∧ S'.drop (pos + 1) = r1 ++ q2' ∧ RowC wr tb 63 [.int .i64 (s.1 : Int), .bool s.2] ∧ ∀ o, AA ≠ some ⟨tb, o, none⟩) (fun _ j _ => k9 - (intOf j).toNat)
            case atStart => exact ⟨0, _, _, _, S, O, r2, rfl, rfl, Nat.zero_le _, HR.out.1, HR.out.2.2.1, HR.out.2.2.2.1, HR.out.2.1, HA2.out⟩
            case round => as_aux_lemma =>
              obtain ⟨i, kk, cc, AA, S', O', q2', rfl, rfl, hi, hfq, hbin, hdr', htr, hAA⟩ := hrel
              obtain ⟨wf, hwf⟩ : ∃ wf : World, wf = wr := ⟨_, rfl⟩
              subst hwf
              have HL9 := Lib.hid HR.out.2.2.2.2.2.1
              by_cases hi9 : i < k9
              · have HI9 := Lib.hid hi9
                have hli : i < (backL G Z (fromsL k) s).length := by rw [← HL9.out]; exact hi9
                obtain ⟨g9, off9, rfl, _, hgl9, hkc9, hcell9, hfr9⟩ := (HR.out.2.2.2.2.1.below (w' := wf) (by rw [hob]; exact hfq.bel)).cells (by omega)
                have a0 := hcell9 (2 * i) (by omega)
                have a1 := hcell9 (2 * i + 1) (by omega)
                obtain ⟨e0, e1⟩ := cellsS_get _ i hli
                rw [e0, Nat.mul_comm 2 i] at a0
                rw [e1, Nat.mul_comm 2 i, ← Nat.add_assoc] at a1
                have htb2 := mem_backL.1 (nth_mem hli)
                have htn := mem_fromsL.1 htb2.1
                have hnx := (back_all HI.out.1 HI.out.2.1).1 (nth_mem hli)
                have hsnc := take_snoc hli
                generalize nth (backL G Z (fromsL k) s) i = t at *
                have hokt : okS t := by unfold okS; omega
                have hf1 := hfq.alloc (.cells #[.int .i64 (t.1 : Int), .bool t.2] 63)
                have hub := RowC.new wf 63 [.int .i64 (t.1 : Int), .bool t.2]
                have htr1 := htr.alloc (.cells #[.int .i64 (t.1 : Int), .bool t.2] 63)
                have u0 := hub.cell 0
                have u1 := hub.cell 1
                have s0 := htr1.cell 0
                have s1 := htr1.cell 1
                simp only [List.getElem?_cons_zero, List.getElem?_cons_succ] at u0 u1 s0 s1
                have hmapO := hf1.map
                have htbl := htr.lt
                have HY := Lib.hid (And.intro hfq (And.intro hf1 (And.intro hbin (And.intro hdr' (And.intro htr (And.intro htr1 (And.intro hAA (And.intro hsnc (And.intro htn (And.intro hnx hub))))))))))
                clear hfq hf1 hbin hdr' htr htr1 hAA hsnc htb2 hnx hub hcell9 hfr9 e0 e1 hgl9 hkc9 hli
                cases hO : O' t with
                | some m =>
                  have hl := Lib.hid (intO_some hO)
                  have hnext := HY.out.2.2.1.old (t := t) (by rw [hO]; rfl)
                  rw [← HY.out.2.2.2.2.2.2.2.1] at hnext
                  have HN := Lib.hid hnext
                  clear hO hnext s0 s1
                  go_wp2_with (first
                    | (at_lookup; refine wpList_look_ok_S _ rfl _ _ 60 rfl 3 Try.underlying60 Try.underlying3 (zeroI _) ob _ _ rfl hmapO t rfl hokt ?_; rw [hl.out])
                    | fail)
                  exact ⟨⟨i + 1, kk, cc, AA, S', O', q2', by go_num, rfl, HI9.out, HY.out.2.1, HN.out, HY.out.2.2.2.1, HY.out.2.2.2.2.2.1, HY.out.2.2.2.2.2.2.1⟩, by have := HI9.out; simp [intOf]; omega⟩
                | none =>
                  have hl := Lib.hid (intO_none hO)
                  go_wp2_with (first
                    | (at_lookup; refine wpList_look_ok_S _ rfl _ _ 60 rfl 3 Try.underlying60 Try.underlying3 (zeroI _) ob _ _ rfl hmapO t rfl hokt ?_; rw [hl.out])
                    | fail)
                  have hcur := HY.out.2.2.1.cur
                  have hdk : d1 < k := by
                    have := (HY.out.2.2.1.far s d1 hcur).lt HAB.out HI.out.2.1 (by rw [HI.out.1]; exact HR.out.2.2.2.2.2.2.1)
                    rw [HI.out.1] at this; exact this
                  have hfd := HY.out.2.1.drew
                  have hszS := hfd.size_le
                  have hlk := hfd.map.look_run hok (intO_some hcur)
                  have hwrp : IntKind.i64.wrap ((d1 : Int) + 1) = ((d1 + 1 : Nat) : Int) := by rw [IntKind.wrap_i64]; omega
                  obtain ⟨w1, hup, hm1, hg1⟩ := hfd.map.ins (by unfold maxLen; omega) hokt ((d1 : Int) + 1) (WalkArith.wf_i64 (by omega))
                  have hm1 : MapS 63 3 w1 ob (S'.length + 1) (putS (intO O') t ((d1 + 1 : Nat) : Int)) := hm1
                  have hg1s := hg1.size
                  have htrd := HY.out.2.2.2.2.2.1.drewN 1
                  have hobl := hfd.map.lt
                  have hrowq := fun (b off : Nat) => hfd.row (b := b) (off := off)
                  have hub1 := (HY.out.2.2.2.2.2.2.2.2.2.2.drewN 1).grown hg1 (by intro e; injection e with e; have := hfd.map.lt; have := HY.out.1.map.lt; omega)
                  have htr1 := htrd.grown hg1 (by intro e; injection e with e; omega)
                  have hoq := (hfd.oo.turn (Turn.of_grown hg1) (fun g off e e2 => by injection e2 with e2; have := (hrowq g off e).1; omega)).alloc (.cells #[.int .i64 (t.1 : Int), .bool t.2] 63)
                  have hbase : ob + 1 ≤ (w1.alloc (.cells #[.int .i64 (t.1 : Int), .bool t.2] 63)).heap.size := by simp; omega
                  have hkk := hfd.k_eq
                  have hk16 : (kk + 1) * 16 ≤ 140737488355328 := by omega
                  have y0 := hub1.cell 0
                  have y1 := hub1.cell 1
                  simp only [List.getElem?_cons_zero, List.getElem?_cons_succ] at y0 y1
                  have HZ := Lib.hid (And.intro hm1 (And.intro hg1 (And.intro hfd (And.intro hrowq (And.intro htr1 hcur)))))
                  clear hmapO a0 a1 hm1 hg1 hfd hrowq hub1 htr1 htrd hcur hkk hszS hg1s hobl
                  go_region
                  clear hlk hup u0 u1 s0 s1
                  obtain ⟨ix, e1, e2, e3, e4, e5⟩ := infoState
                  go_wp2_with (first
                    | (at_builtin; refine wpList_app_q _ rfl _ _ 80 rfl 63 ix _ 2 16 e1 e2 e3 e4 e5 (by simp [Value.cells]) (by omega) (ob + 1) _ _ _ _ rfl hoq hbase ⟨w1.heap.size, 0, none⟩ 1 1 [.int .i64 (t.1 : Int), .bool t.2] rfl rfl (cells_new w1 _ 63) (by intro u hu; simp at hu; rcases hu with rfl | rfl <;> rfl) hk16 (by omega) ?_)
                    | fail)
                  intro A9 c9' w9 ho9 ht9 hd9
                  obtain ⟨hm1, hg1, hfd, hrowq, htr1, hcur⟩ := HZ.out
                  have hfin := hfd.found HY.out.2.2.2.2.2.2.2.2.1 hO hm1 hg1 ho9 ht9
                  have hnew := HY.out.2.2.1.new hO HY.out.2.2.2.2.2.2.2.2.2.1 (O' := putO O' t (d1 + 1)) (fun x => by unfold putO; by_cases h : x = t <;> simp [h])
                  rw [← HY.out.2.2.2.2.2.2.2.1] at hnew
                  have htr9 := (htr1.alloc (.cells #[.int .i64 (t.1 : Int), .bool t.2] 63)).turn ht9 (fun ⟨off, e⟩ => HY.out.2.2.2.2.2.2.1 off e)
                  have hA9 : ∀ o, A9 ≠ some ⟨tb, o, none⟩ := fun o e => by
                    rcases hd9 tb o e with ⟨off', h1⟩ | h1
                    · exact HY.out.2.2.2.2.2.2.1 off' h1
                    · have := htr1.lt; first | omega | (simp at h1; omega)
                  have hdr9 : (S' ++ [t]).drop (pos + 1) = r1 ++ (q2' ++ [t]) := by
                    rw [List.drop_append_of_le_length HY.out.1.ple, HY.out.2.2.2.1, List.append_assoc]
                  have HE := Lib.hid (And.intro hfin (And.intro hnew (And.intro htr9 (And.intro hA9 hdr9))))
                  clear hfin hnew htr9 hA9 hdr9 ho9 ht9 hd9 hm1 hg1 hfd hrowq htr1 hcur hoq y0 y1
                  go_wp2_with fail
                  exact ⟨⟨i + 1, kk + 1, c9', A9, S' ++ [t], _, q2' ++ [t], by go_num, rfl, HI9.out, HE.out.1, HE.out.2.1, HE.out.2.2.2.2, HE.out.2.2.1, HE.out.2.2.2.1⟩, by have := HI9.out; simp [intOf]; omega⟩
              · obtain rfl : i = k9 := by omega
                rw [HL9.out, List.take_length] at hbin
                have hdone := hbin.done (fun t ht => (back_all HI.out.1 HI.out.2.1).2 ht)
                have HY := Lib.hid (And.intro hfq (And.intro hdone hdr'))
                clear hfq hbin hdone hdr' htr hAA
                go_wp2_with fail
                go_roundg (2 * k - (pos + 1))
                case measure => have := HM.out.2.1; have := HM.out.2.2.2; omega
                case rel => exact ⟨pos + 1, kk, cc, _, AA, S', _, _, O', by omega, rfl, (show Aside _ from ⟨HY.out.1, HY.out.2.1, HY.out.2.2⟩)⟩
          · have hk0 : k' = 0 := by omega
            subst hk0
            have hq := hA.out.2.2
            rw [List.drop_eq_nil_of_le (by omega)] at hq
            obtain ⟨hq1, hq2⟩ := List.append_eq_nil_iff.1 hq.symm
            have hbf := hA.out.2.1
            rw [hq1, hq2] at hbf
            have HD := Lib.hid hbf.all
            clear hbf hq hq1 hq2 hkq hsz hple hpos
            go_wp2_with fail
            go_ret
            exact ⟨ob, S.length, O, rfl, by have := HX.out.1.bel.size; have := HX.out.1.view.lt; omega, hA.out.1.map, HD.out, fun s m e => hA.out.1.bnd s ((hA.out.1.mem s).2 (by rw [e]; rfl)), by
              rw [hps]
              exact HX.out.1.bel.trans (hA.out.1.bel.mono (by have := HX.out.1.view.lt; omega))⟩
end Go.Proofs.Ytaibdlnolpbpiaa
/- credenceref16.Trail, walked: the least of the shortest trails, by all trails. Conditions: the parents and the points within Go's bound. -/
namespace Go.Proofs.Ytaibdlnolpbpiaa
open Go.RowKit

open Classical in
/-- the best trail, if there is one -/
noncomputable def bestO (G : List (List Nat)) (given : List Int) (a b : Nat) : Option (List Nat) := if h : ∃ o, BestT G (Zp given) (Ap G given) a b o then Classical.choose h else none
theorem bestO_eq {G : List (List Nat)} {given : List Int} {a b : Nat} {o : Option (List Nat)} (h : BestT G (Zp given) (Ap G given) a b o) : bestO G given a b = o := by
  have hx : ∃ o, BestT G (Zp given) (Ap G given) a b o := ⟨o, h⟩
  unfold bestO
  rw [dif_pos hx]
  exact (Classical.choose_spec hx).uniq h
/-- what Trail tells -/
noncomputable def trailW (Ps : List (List Int)) (a b : Int) (given : List Int) : List Int := if lookE Ps given [a, b] = 0 then castL ((bestO (toG Ps) given a.toNat b.toNat).getD []) else []
theorem look_two {Ps : List (List Int)} {a b : Int} {given : List Int} (h : lookE Ps given [a, b] = 0) : (0 ≤ a ∧ a < (Ps.length : Int)) ∧ (0 ≤ b ∧ b < (Ps.length : Int)) := by
  obtain ⟨_, _, h3⟩ := lookE_inv h
  rw [inRow_iff] at h3
  exact ⟨h3 a (by simp), h3 b (by simp)⟩

set_option maxRecDepth 100000 in
set_option maxHeartbeats 800000 in
theorem trail_ref (A C0 : Option Addr) (n c m3 d3 : Nat) (Ps : List (List Int)) (a b : Int) (given : List Int) (w : World) (h : Rows (Value.int .i64) w A n Ps) (hg : Sl (Value.int .i64) w C0 m3 given)
    (hn : n * 24 ≤ 140737488351232) (hm3 : (2 + m3) * 8 ≤ 140737488355328) :
    Calls Try.prog 19 #[.slice A n c, .int .i64 a, .int .i64 b, .slice C0 m3 d3] w fun e w' => ∃ X q r, e = .returned (.tuple #[.slice X q r, .int .i64 (lookE Ps given [a, b])]) ∧ Sl (Value.int .i64) w' X q (trailW Ps a b given) ∧ Below w.heap.size w w' := by
  obtain ⟨wa, hwa⟩ : ∃ wa : World, wa = w := ⟨_, rfl⟩
  subst hwa
  have hlen := h.len
  have HL := Lib.hid (And.intro h (And.intro hg hlen))
  have hown : OwnR (Value.int .i64) (wa.alloc (.cells #[.int .i64 a, .int .i64 b] 3)) wa.heap.size 3 (some ⟨wa.heap.size, 0, none⟩) 2 2 [a, b] := by
    have hr : RowAt (Value.int .i64) (wa.alloc (.cells #[.int .i64 a, .int .i64 b] 3)) wa.heap.size 3 [a, b] [] := RowC.new wa 3 [.int .i64 a, .int .i64 b]
    exact OwnR.of_row' hr (Nat.le_refl _) rfl (by unfold maxLen; omega) rfl
  have hb0 : Below wa.heap.size wa (wa.alloc (.cells #[.int .i64 a, .int .i64 b] 3)) := (Below.refl wa.heap.size wa).alloc (Nat.le_refl _) _
  have hg0 := hg.below (Nat.le_refl _) hb0
  have hz0 := hb0.size
  clear h hg
  go_enter Try.func19, Try.ntmps19
  go_wp2_with (first
    | (at_builtin; (with_reducible refine wpList_app _ eiInt (Value.int .i64) (fun _ => rfl) rfl _ _ rfl wa.heap.size _ _ _ _ rfl hown _ _ _ _ rfl hg0 hm3 hz0 ?_))
    | fail)
  intro A8 c8 w8 ho8 _ hb8 _
  have hb8' : Below wa.heap.size wa w8 := hb0.trans hb8
  have hz8 := hb8'.size
  have hs8 := ho8.sl (by omega)
  have hr8 := HL.out.1.below (Nat.le_refl _) hb8'
  have HB8 := Lib.hid hb8'
  clear hb8 hb8' hb0 hz0 hown hg0 ho8
  go_wp2_with fail
  refine (bad_ref A A8 n c (2 + m3) c8 Ps ([a, b] ++ given) _ hr8 hs8 hn).mono ?_
  rintro e w6 ⟨rfl, hb6⟩
  rw [lookE_app]
  have hbw : Below wa.heap.size wa w6 := HB8.out.trans (hb6.mono hz8)
  have h6r := HL.out.1.below (Nat.le_refl _) hbw
  have h6g := HL.out.2.1.below (Nat.le_refl _) hbw
  have HB6 := Lib.hid hbw
  clear hb6 hbw hr8 hs8 hz8
  by_cases hE : lookE Ps given [a, b] = 0
  · have HE := Lib.hid hE
    obtain ⟨⟨ha1, ha2⟩, hb1, hb2⟩ := look_two hE
    obtain ⟨hck, hin1, _⟩ := lookE_inv hE
    rw [hE]
    obtain ⟨x, rfl⟩ : ∃ x : Nat, a = (x : Int) := ⟨a.toNat, by omega⟩
    obtain ⟨y, rfl⟩ : ∃ y : Nat, b = (y : Int) := ⟨b.toNat, by omega⟩
    rw [hlen] at hin1
    have hxn : x < n := by omega
    clear hE
    go_wp2_with fail
    refine (start_ref A C0 n c m3 d3 Ps given x (y : Int) _ h6r h6g hck hin1 hxn hn).mono ?_
    rintro e w5 ⟨wz, UA, mu, ud, hb, cb, L1, BA, bn, bc, bo, rfl, hb5, _, hM5, _, hH5⟩
    have hbest := bestO_eq (hH5.best rfl)
    have hbw : Below wa.heap.size wa w5 := HB6.out.trans (hb5.mono HB6.out.size)
    have r4 := hM5.row.cell 4
    simp only [List.getElem?_cons_zero, List.getElem?_cons_succ] at r4
    have hsl : Sl (Value.int .i64) w5 BA bn (castL (bo.getD [])) := by
      rcases hM5.best with ⟨rfl, rfl, rfl, rfl⟩ | ⟨t, rfl, _, ho⟩
      · exact Sl.nil _ _ _
      · have h1 := ho.sl (by
          have h2 := ho.length
          obtain ⟨⟨z, l, ⟨_, h4⟩, _, _, h5⟩, _⟩ := hH5.bsome t rfl
          have h6 := h4.length_le (by rw [toG_length, hlen]; exact hxn)
          rw [toG_length, hlen] at h6
          rw [h5, List.length_reverse] at h2
          omega)
        exact h1.toInt
    have HF := Lib.hid (And.intro hbw (And.intro hsl hbest))
    clear hbw hsl hbest hb5 hM5 hH5
    go_wp2_with fail
    go_ret2
    refine ⟨BA, bn, bc, by rw [HE.out]; rfl, ?_, HF.out.1⟩
    unfold trailW
    rw [if_pos HE.out, Int.toNat_natCast, Int.toNat_natCast, HF.out.2.2]
    exact HF.out.2.1
  · have HE := Lib.hid hE
    clear h6r h6g
    go_wp2_with fail
    go_ret2
    refine ⟨none, 0, 0, rfl, ?_, HB6.out⟩
    unfold trailW
    rw [if_neg HE.out]
    exact Sl.nil _ _ _
end Go.Proofs.Ytaibdlnolpbpiaa
/- sep.Trail, walked: a way by which one point tells something of another. Conditions: the parents and the points within Go's bound. -/
namespace Go.Proofs.Ytaibdlnolpbpiaa
open Go.RowKit

theorem clo_best (B n ob cnt fvb nb bb m : Nat) (O : St → Option Nat) (s0 : St) (hn : n * 64 ≤ 140737488351232) (hs0 : s0.1 < n) (h0 : O s0 = some (m + 1)) (hm : m < n) (hOn : ∀ x k, O x = some k → k < n) :
    Clo B n 46 #[.pointer (some ⟨fvb, 0, none⟩), .pointer (some ⟨nb, 0, none⟩), .pointer (some ⟨bb, 0, none⟩)] (fun _ => True) (fun K L w => Tb B n ob cnt fvb nb bb O s0 K (bestF n O m L) w) where
  step := by
    intro K L s w hs _ h
    refine (best_any B n ob cnt fvb nb bb m O s0 K _ s w hn hs hs0 h0 hm hOn h).mono ?_
    rintro e w' ⟨rfl, h1, h2, h3⟩
    exact ⟨rfl, by rw [bestF_snoc]; exact h1, h2, h3⟩
  ent := enters_of Try.func46 (by kernel_rfl) rfl
  grow := fun _ _ _ _ h hb => h.step hb
  weak := fun _ _ _ _ h hk => h.weak hk
  bnd := fun _ _ _ b h hk => (h.far b hk).1
section
variable {G : List (List Nat)} {Z : List Int} {O : St → Option Nat} {n b m : Nat}
theorem best_bst (hG : G.length = n) (hg : GoodG G) (hO : FarOk G (Zp Z) (Ap G Z) b O) {s : St} (hs : s.1 < n) (hf : Far G (Zp Z) (Ap G Z) b (m + 1) s) :
    Bst G (Zp Z) (Ap G Z) b s m (bestF n O m (nextL G Z s)) ∧ (bestF n O m (nextL G Z s)).1 < n := by
  have hsG : s.1 < G.length := by rw [hG]; exact hs
  obtain ⟨t, hx, hft⟩ := hf.next
  have ht := (mem_nextL hsG).2 hx
  have htn := nextL_bnd hg hsG ht
  obtain ⟨h1, h2⟩ := bestF_spec n O m (nextL G Z s)
  have h3 := h1 t ht (hO.iff.2 hft)
  rcases h2 with h2 | ⟨h2, h4⟩
  · rw [h2] at h3; rw [hG] at htn; simp at h3; omega
  · exact ⟨⟨(mem_nextL hsG).1 h2, hO.far _ _ h4, fun r hr hfr => h1 r ((mem_nextL hsG).2 hr) (hO.iff.2 hfr)⟩, by have := nextL_bnd hg hsG h2; rw [hG] at this; exact this⟩
end
/-- Trail's loop on its way -/
structure Tw (G : List (List Nat)) (Z : List Int) (n x y fvb ob : Nat) (A : Option Addr) (k c m : Nat) (s : St) (l : List St) (w0 w : World) : Prop where
  grd : Grd G (Zp Z) (Ap G Z) y (x, true) m (s :: l)
  own : OwnR (Value.int .i64) w (fvb + 2) 3 A k c (castL ((s :: l).map (·.1)).reverse)
  fv : RowC w fvb 60 [.map (some ob)]
  now : RowC w (fvb + 1) 63 [.int .i64 (s.1 : Int), .bool s.2]
  bel : Below fvb w0 w
  sn : s.1 < n
theorem bestT_given {G : List (List Nat)} {given : List Int} {x y : Nat} (h : zB given x = true ∨ zB given y = true) : bestO G given x y = none := by
  refine bestO_eq ⟨fun _ l h1 h2 => ?_, fun t e => by cases e⟩
  rcases h with h | h
  · exact absurd h h1
  · exact h
theorem rows_nodup {Ps : List (List Int)} {n : Nat} (h : inR Ps = true) (hd : Ps.any dup = false) (hn : Ps.length = n) : ∀ p, p < n → (nth (toG Ps) p).Nodup := by
  intro p hp
  have hpl : p < Ps.length := by omega
  rw [nth_toG hpl]
  have h1 : (nth Ps p).Nodup := dup_nodup (by
    cases hx : dup (nth Ps p)
    · rfl
    · rw [List.any_eq_false] at hd
      exact absurd hx (hd _ (nth_mem hpl)))
  rw [List.nodup_iff_pairwise_ne, List.pairwise_map]
  refine (List.nodup_iff_pairwise_ne.1 h1).imp_of_mem fun {x y} hx hy hne e => hne ?_
  have := (inR_row h hpl x hx).1
  have := (inR_row h hpl y hy).1
  omega
theorem lists_rev (s t : St) (l : List St) : castL ((t :: s :: l).map (·.1)).reverse = castL ((s :: l).map (·.1)).reverse ++ [(t.1 : Int)] := by simp [castL]

set_option maxRecDepth 100000 in
set_option maxHeartbeats 1600000 in
theorem trail_any (A C0 : Option Addr) (n c m3 d3 : Nat) (Ps : List (List Int)) (a b : Int) (given : List Int) (w : World) (h : Rows (Value.int .i64) w A n Ps) (hg : Sl (Value.int .i64) w C0 m3 given)
    (hn : n ≤ 1048576) (hm3 : m3 * 8 ≤ 140737488355328) :
    Calls Try.prog 20 #[.slice A n c, .int .i64 a, .int .i64 b, .slice C0 m3 d3] w fun e w' => ∃ X q r, e = .returned (.tuple #[.slice X q r, .int .i64 (lookE Ps given [a, b])]) ∧ OwnR (Value.int .i64) w' w.heap.size 3 X q r (trailW Ps a b given) ∧ Below w.heap.size w w' := by
  obtain ⟨wa, hwa⟩ : ∃ wa : World, wa = w := ⟨_, rfl⟩
  subst hwa
  have hlen := h.len
  have hb0 : Below wa.heap.size wa (wa.alloc (.cells #[.int .i64 a, .int .i64 b] 3)) := (Below.refl wa.heap.size wa).alloc (Nat.le_refl _) _
  have h0 := h.below (Nat.le_refl _) hb0
  have hg0 := hg.below (Nat.le_refl _) hb0
  have hsl : Sl (Value.int .i64) (wa.alloc (.cells #[.int .i64 a, .int .i64 b] 3)) (some ⟨wa.heap.size, 0, none⟩) 2 [a, b] := by
    have hr : RowAt (Value.int .i64) (wa.alloc (.cells #[.int .i64 a, .int .i64 b] 3)) wa.heap.size 3 [a, b] [] := RowC.new wa 3 [.int .i64 a, .int .i64 b]
    exact hr.sl (by simp)
  have HL := Lib.hid (And.intro hlen hb0)
  clear h hg hb0 hlen
  go_enter Try.func20, Try.ntmps20
  go_wp2_with fail
  refine (look_any A C0 _ n c m3 d3 2 2 Ps given [a, b] _ h0 hg0 hsl (by omega) hm3).mono ?_
  rintro e w1 ⟨hb1, A1, na, ca, Y1, nb, cb, Z1, k1, c1, D1, k2, c2, rfl, hv⟩
  have hbw : Below wa.heap.size wa w1 := HL.out.2.trans (hb1.mono HL.out.2.size)
  clear h0 hg0 hsl hb1
  by_cases hE : lookE Ps given [a, b] = 0
  · obtain ⟨e1, e2, e3, e4, hvw⟩ := hv hE
    clear hv
    have e1 := e1.symm
    have e2 := e2.symm
    have e3 := e3.symm
    have e4 := e4.symm
    subst e1 e2 e3 e4
    rw [hE]
    obtain ⟨⟨ha1, ha2⟩, hb1, hb2⟩ := look_two hE
    obtain ⟨hck, hin1, _⟩ := lookE_inv hE
    obtain ⟨x, rfl⟩ : ∃ x : Nat, a = (x : Int) := ⟨a.toNat, by omega⟩
    obtain ⟨y, rfl⟩ : ∃ y : Nat, b = (y : Int) := ⟨b.toNat, by omega⟩
    have hlen := HL.out.1
    rw [hlen] at ha2 hb2
    have hxn : x < n := by omega
    have hyn : y < n := by omega
    have hGl : (toG Ps).length = n := by rw [toG_length]; exact hlen
    obtain ⟨hinr, hdup, hac⟩ := checkP_ok hck
    have hgood := good_toG hinr
    have hgg := inRow_iff.1 hin1
    have hab := abOk hgood (given := given) (by rw [hGl, ← hlen]; exact hgg)
    have hnod : ∀ p, p < n → (nth (toG Ps) p).Nodup := rows_nodup hinr hdup hlen
    have hH1 := (Held.start (P := fun w => View w (toG Ps) given A Y1 Z1 D1 n k1 k2) w1 hvw).new 57 [.slice A n c, .slice Y1 n cb, .slice Z1 k1 c1, .slice D1 k2 c2]
    have v0 := hH1.has.1.cell 0
    have v1 := hH1.has.1.cell 1
    have v2 := hH1.has.1.cell 2
    have v3 := hH1.has.1.cell 3
    simp only [List.getElem?_cons_zero, List.getElem?_cons_succ] at v0 v1 v2 v3
    have hgiv := hH1.has.2.giv
    have HH := Lib.hid (And.intro hH1 hbw)
    have HE := Lib.hid (And.intro hE (And.intro hGl (And.intro hgood (And.intro hac (And.intro hab hnod)))))
    clear hH1 hbw hE ha1 ha2 hb1 hb2 hck hin1 hlen hGl hinr hdup hac hgood hgg hab hnod hvw
    go_wp2_with fail
    refine (has_I Z1 k1 c1 _ _ _ hgiv).mono ?_
    rintro e w2 ⟨rfl, hb2⟩
    have hH2 := HH.out.1.step hb2
    clear hb2 hgiv v0 v1 v2 v3
    cases hzx : zB given x with
    | true =>
      rw [show decide ((x : Int) ∈ given) = true from hzx]
      have HZ := Lib.hid (And.intro (bestT_given (G := toG Ps) (y := y) (.inl hzx)) (HH.out.2.trans (hH2.bel.mono HH.out.2.size)))
      clear hH2 hzx
      go_wp2_with fail
      go_ret2
      refine ⟨none, 0, 0, by rw [HE.out.1]; rfl, ?_, HZ.out.2⟩
      unfold trailW
      rw [if_pos HE.out.1, Int.toNat_natCast, Int.toNat_natCast, HZ.out.1]
      exact OwnR.nil _ _ _ _
    | false =>
      rw [show decide ((x : Int) ∈ given) = false from hzx]
      have v0 := hH2.has.1.cell 0
      have v1 := hH2.has.1.cell 1
      have v2 := hH2.has.1.cell 2
      have v3 := hH2.has.1.cell 3
      simp only [List.getElem?_cons_zero, List.getElem?_cons_succ] at v0 v1 v2 v3
      have hgiv := hH2.has.2.giv
      have HH2 := Lib.hid hH2
      have HZX := Lib.hid hzx
      clear hH2 hzx
      go_wp2_with fail
      refine (has_I Z1 k1 c1 _ _ _ hgiv).mono ?_
      rintro e w3 ⟨rfl, hb3⟩
      have hH3 := HH2.out.step hb3
      clear hb3 hgiv v0 v1 v2 v3
      cases hzy : zB given y with
      | true =>
        rw [show decide ((y : Int) ∈ given) = true from hzy]
        have HZ := Lib.hid (And.intro (bestT_given (G := toG Ps) (x := x) (.inr hzy)) (HH.out.2.trans (hH3.bel.mono HH.out.2.size)))
        clear hH3 hzy
        go_wp2_with fail
        go_ret2
        refine ⟨none, 0, 0, by rw [HE.out.1]; rfl, ?_, HZ.out.2⟩
        unfold trailW
        rw [if_pos HE.out.1, Int.toNat_natCast, Int.toNat_natCast, HZ.out.1]
        exact OwnR.nil _ _ _ _
      | false =>
        rw [show decide ((y : Int) ∈ given) = false from hzy]
        have v0 := hH3.has.1.cell 0
        have v1 := hH3.has.1.cell 1
        have v2 := hH3.has.1.cell 2
        have v3 := hH3.has.1.cell 3
        simp only [List.getElem?_cons_zero, List.getElem?_cons_succ] at v0 v1 v2 v3
        have hvw := hH3.has.2
        have HH3 := Lib.hid hH3
        have HZY := Lib.hid hzy
        clear hH3 hzy
        go_wp2_with fail
        refine (far_any (toG Ps) given A Y1 Z1 D1 n k1 k2 c cb c1 c2 y _ hvw HE.out.2.1 HE.out.2.2.1 HE.out.2.2.2.2.2 HE.out.2.2.2.2.1 hyn hn).mono ?_
        rintro e w4 ⟨ob, cnt, O, rfl, hob, hmap, hfar, hOn, hb4⟩
        have hH4 := HH3.out.step hb4
        have hobl := hmap.lt
        have HF := Lib.hid (And.intro hmap (And.intro hfar (And.intro hOn hH4)))
        have hokx : okS (x, true) := by unfold okS; simp; omega
        have hm4 := (hmap.alloc (.cells #[.map (some ob)] 60)).alloc (.cells #[.int .i64 (x : Int), .bool true] 63)
        have hr1 := (RowC.new w4 60 [.map (some ob)]).alloc (.cells #[.int .i64 (x : Int), .bool true] 63)
        have hr2 := RowC.new (w4.alloc (.cells #[.map (some ob)] 60)) 63 [.int .i64 (x : Int), .bool true]
        rw [show (w4.alloc (.cells #[.map (some ob)] 60)).heap.size = w4.heap.size + 1 by simp] at hr2
        have f0 := hr1.cell 0
        have n0 := hr2.cell 0
        have n1 := hr2.cell 1
        simp only [List.getElem?_cons_zero, List.getElem?_cons_succ] at f0 n0 n1
        have HR := Lib.hid (And.intro hr1 hr2)
        clear hvw v0 v1 v2 v3 hb4 hH4 hfar hOn hmap hr1 hr2
        have hxz : ¬ Zp given x := fun h => by unfold Zp at h; rw [HZX.out] at h; cases h
        have hyz : ¬ Zp given y := fun h => by unfold Zp at h; rw [HZY.out] at h; cases h
        cases hO : O (x, true) with
        | none =>
          have hl := Lib.hid (intO_none hO)
          have hbt : bestO (toG Ps) given x y = none := bestO_eq (BestT.none_of HE.out.2.2.2.1.oneWay (by rw [HE.out.2.1]; exact hxn) fun _ _ m u hg => by
            have := HF.out.2.1.all _ m u hg
            rw [hO] at this; cases this)
          have HB := Lib.hid hbt
          clear hO hbt hxz hyz
          go_wp2_with (first
            | (at_lookup; refine wpList_look_ok_S _ rfl _ _ 60 rfl 3 Try.underlying60 Try.underlying3 (zeroI _) ob _ _ rfl hm4 (x, true) rfl hokx ?_; rw [hl.out])
            | fail)
          go_ret2
          refine ⟨none, 0, 0, by rw [HE.out.1]; rfl, ?_, ?_⟩
          · unfold trailW
            rw [if_pos HE.out.1, Int.toNat_natCast, Int.toNat_natCast, HB.out]
            exact OwnR.nil _ _ _ _
          · have h1 := HF.out.2.2.2.bel
            have h2 := HH.out.2.trans (h1.mono HH.out.2.size)
            exact (h2.alloc h2.size _).alloc (by have := h2.size; simp; omega) _
        | some D =>
          have hl := Lib.hid (intO_some hO)
          have hfD := HF.out.2.1.far _ _ hO
          have hDn := hfD.lt HE.out.2.2.2.2.1 HE.out.2.2.1 (by rw [HE.out.2.1]; exact hxn)
          rw [HE.out.2.1] at hDn
          have htw : Tw (toG Ps) given n x y w4.heap.size ob (some ⟨w4.heap.size + 1 + 1, 0, none⟩) 1 1 D (x, true) [] w4 (((w4.alloc (.cells #[.map (some ob)] 60)).alloc (.cells #[.int .i64 (x : Int), .bool true] 63)).alloc (.cells #[.int .i64 (x : Int)] 3)) := by
            refine ⟨.one hfD, ?_, HR.out.1.alloc _, HR.out.2.alloc _, (((Below.refl _ _).alloc (Nat.le_refl _) _).alloc (by simp) _).alloc (by simp; omega) _, hxn⟩
            have hr : RowAt (Value.int .i64) (((w4.alloc (.cells #[.map (some ob)] 60)).alloc (.cells #[.int .i64 (x : Int), .bool true] 63)).alloc (.cells #[.int .i64 (x : Int)] 3)) (w4.heap.size + 1 + 1) 3 [(x : Int)] [] := by
              have := RowC.new ((w4.alloc (.cells #[.map (some ob)] 60)).alloc (.cells #[.int .i64 (x : Int), .bool true] 63)) 3 [.int .i64 (x : Int)]
              rw [show ((w4.alloc (.cells #[.map (some ob)] 60)).alloc (.cells #[.int .i64 (x : Int), .bool true] 63)).heap.size = w4.heap.size + 1 + 1 by simp] at this
              exact this
            exact OwnR.of_row' hr (by omega) rfl (by unfold maxLen; omega) rfl
          have HT := Lib.hid (And.intro htw (And.intro hxz (And.intro hyz hO)))
          clear hO hfD htw hxz hyz
          go_wp2_with (first
            | (at_lookup; refine wpList_look_ok_S _ rfl _ _ 60 rfl 3 Try.underlying60 Try.underlying3 (zeroI _) ob _ _ rfl hm4 (x, true) rfl hokx ?_; rw [hl.out])
            | fail)
          clear f0 n0 n1 hm4
          generalize ((w4.alloc (.cells #[.map (some ob)] 60)).alloc (.cells #[.int .i64 (x : Int), .bool true] 63)).alloc (.cells #[.int .i64 (x : Int)] 3) = wz at *
          generalize hfv : w4.heap.size = fv at *
          go_loopg [16] D (fun gg v wr => ∃ (m kk cc : Nat) (AA : Option Addr) (s : St) (l : List St), m ≤ gg ∧ v = .slice AA kk cc ∧ Aside (Tw (toG Ps) given n x y fv ob AA kk cc m s l w4 wr))
          case atStart => exact ⟨D, 1, 1, _, (x, true), [], Nat.le_refl _, rfl, HT.out.1⟩
          case round => as_aux_lemma =>
            obtain ⟨m, kk, cc, AA, s, l, hgg, rfl, hA⟩ := hrel
            have hA := Lib.hid hA.out
            obtain ⟨wb, hwb⟩ : ∃ wb : World, wb = wr := ⟨_, rfl⟩
            subst hwb
            have hmap := HF.out.1.below (show Below w4.heap.size w4 wb from by rw [hfv]; exact hA.out.bel)
            have hOs := HF.out.2.1.iff.2 hA.out.grd.far
            have hst := hA.out.grd.start
            have hsn := hA.out.sn
            have hok : okS s := by unfold okS; omega
            have hmn := hst.lt HE.out.2.2.2.2.1 HE.out.2.2.1 (by rw [HE.out.2.1]; exact hxn)
            rw [HE.out.2.1] at hmn
            have hkl := hA.out.own.length
            have hkk : kk = l.length + 1 := by rw [← hkl]; simp [castL]
            have f0 := hA.out.fv.cell 0
            have n0 := hA.out.now.cell 0
            have n1 := hA.out.now.cell 1
            simp only [List.getElem?_cons_zero, List.getElem?_cons_succ] at f0 n0 n1
            have hwa4 : Below wa.heap.size wa w4 := HH.out.2.trans (HF.out.2.2.2.bel.mono HH.out.2.size)
            have hfvs := hA.out.bel.size
            have HW := Lib.hid (And.intro hwa4 (And.intro hmn (And.intro hkk hOs)))
            clear hst hkl hwa4 hmn hkk
            cases m with
            | zero =>
              have hl := Lib.hid (intO_some hOs)
              have hbest := bestO_eq (hA.out.grd.best HE.out.2.2.2.2.1 HE.out.2.2.2.1.oneWay HE.out.2.2.1 (by rw [HE.out.2.1]; exact hxn) HT.out.2.1 HT.out.2.2.1)
              have HB := Lib.hid hbest
              clear hOs hbest
              go_wp2_with (first
                | (at_lookup; refine wpList_look_S _ rfl _ _ 60 rfl 3 Try.underlying60 Try.underlying3 (zeroI _) ob _ _ rfl hmap s rfl hok ?_; rw [hl.out])
                | fail)
              go_ret2
              refine ⟨AA, kk, cc, by rw [HE.out.1]; rfl, ?_, HW.out.1.trans (hA.out.bel.mono (by have := HW.out.1.size; omega))⟩
              unfold trailW
              rw [if_pos HE.out.1, Int.toNat_natCast, Int.toNat_natCast, HB.out]
              exact hA.out.own.mono (by have := HW.out.1.size; omega)
            | succ m =>
              have hl := Lib.hid (intO_some hOs)
              have hpos : (((m + 1 : Nat) : Int) > 0) := by omega
              have hmp := hmap.alloc (.cells #[.int .i64 (n : Int), .bool false] 63)
              have hbn := RowC.new wb 63 [.int .i64 (n : Int), .bool false]
              have hfv1 := hA.out.fv.alloc (.cells #[.int .i64 (n : Int), .bool false] 63)
              have hnw1 := hA.out.now.alloc (.cells #[.int .i64 (n : Int), .bool false] 63)
              have hbl1 : Below fv w4 (wb.alloc (.cells #[.int .i64 (n : Int), .bool false] 63)) := hA.out.bel.alloc (by rw [← hfv]; exact hfvs) _
              have hvr := HF.out.2.2.2.has.1.below' (show Below w4.heap.size w4 (wb.alloc (.cells #[.int .i64 (n : Int), .bool false] 63)) from by rw [hfv]; exact hbl1)
              have v0 := hvr.cell 0
              have v1 := hvr.cell 1
              have v2 := hvr.cell 2
              have v3 := hvr.cell 3
              have p0 := hnw1.cell 0
              have p1 := hnw1.cell 1
              simp only [List.getElem?_cons_zero, List.getElem?_cons_succ] at v0 v1 v2 v3 p0 p1
              have hTb : Tb fv n ob cnt fv (fv + 1) wb.heap.size O s (fun b => b < wb.heap.size) (bestF n O m []) (wb.alloc (.cells #[.int .i64 (n : Int), .bool false] 63)) :=
                ⟨hmp, hfv1, hnw1, hbn, by have := hmap.lt; omega, by have := hA.out.fv.lt; omega, by have := hA.out.now.lt; omega, by rw [← hfv]; exact hfvs, fun b hb => ⟨by simp; omega, by omega⟩⟩
              have HX := Lib.hid (And.intro hTb (And.intro hbl1 hOs))
              clear hTb hbl1 hvr hbn hfv1 hnw1 hmp hOs
              go_wp2_with (first
                | (at_lookup; refine wpList_look_S _ rfl _ _ 60 rfl 3 Try.underlying60 Try.underlying3 (zeroI _) ob _ _ rfl hmap s rfl hok ?_; rw [hl.out])
                | fail)
              have hnl := next_lt HE.out.2.2.1 (p := s.1) (by rw [HE.out.2.1]; exact hsn)
              have hOn : ∀ z k, O z = some k → k < n := fun z k hz => by
                have h1 := (HF.out.2.1.far z k hz).lt HE.out.2.2.2.2.1 HE.out.2.2.1 (by rw [HE.out.2.1]; exact HF.out.2.2.1 z k hz)
                rw [HE.out.2.1] at h1; exact h1
              refine (next_any (clo_best fv n ob cnt fv (fv + 1) wb.heap.size m O s (by omega) hsn HX.out.2.2 (by have := hOn _ _ HX.out.2.2; omega) hOn) (toG Ps) given A Y1 Z1 D1 k1 k2 c cb c1 c2 s hsn (by rw [← HE.out.2.1]; exact hnl.1) (by rw [← HE.out.2.1]; exact hnl.2) (fun b => b < wb.heap.size) [] _ w4 HF.out.2.2.2.has.2 (Nat.le_of_eq hfv) ?_ HX.out.2.1 HX.out.1 (fun _ _ => trivial)).mono ?_
              · have := HX.out.2.1.size; omega
              · rintro e w9 ⟨rfl, hT9, hb9, hk9⟩
                have hbst := best_bst HE.out.2.1 HE.out.2.2.1 HF.out.2.1 hsn hA.out.grd.far
                rw [List.nil_append] at hT9
                generalize bestF n O m (nextL (toG Ps) given s) = t at *
                have hbb : Below wb.heap.size (wb.alloc (.cells #[.int .i64 (n : Int), .bool false] 63)) w9 := ⟨hb9.os, hb9.tape, hb9.output, hb9.size, fun b hb => hk9 b hb⟩
                have hbw9 : Below wb.heap.size wb w9 := ((Below.refl _ _).alloc (Nat.le_refl _) _).trans hbb
                have hown9 := hA.out.own.below (Nat.le_refl _) hbw9
                have hfv9 := hA.out.fv.below' hbw9
                have hnw9 := hA.out.now.below' hbw9
                have hbl9 : Below fv w4 w9 := hA.out.bel.trans (hbw9.mono (by rw [← hfv]; exact hfvs))
                have b0 := hT9.best.cell 0
                have b1 := hT9.best.cell 1
                have z0 := hnw9.frozen 0
                have z1 := hnw9.frozen 1
                have m0 := hnw9.cell 0
                have m1 := hnw9.cell 1
                simp only [List.getElem?_cons_zero, List.getElem?_cons_succ] at b0 b1 m0 m1
                have hrow : ∀ g, AA = some ⟨g, 0, none⟩ → fv + 2 ≤ g := fun g e => hown9.fr g 0 e
                have hown10 := ((hown9.setFar (p := ⟨fv + 1, 0, none⟩) (fun g e => by have := hrow g e; simp; omega) (.int .i64 (t.1 : Int))).setFar (p := ⟨fv + 1, 1, none⟩) (fun g e => by have := hrow g e; simp; omega) (.bool t.2))
                have hfv10 := (hfv9.far (p := ⟨fv + 1, 0, none⟩) (by simp) (.int .i64 (t.1 : Int))).far (p := ⟨fv + 1, 1, none⟩) (by simp) (.bool t.2)
                have hnw10 := (hnw9.put 0 (.int .i64 (t.1 : Int))).put 1 (.bool t.2)
                have hbl10 : Below fv w4 ((w9.setCell ⟨fv + 1, 0, none⟩ (.int .i64 (t.1 : Int))).setCell ⟨fv + 1, 1, none⟩ (.bool t.2)) := (hbl9.setCell (p := ⟨fv + 1, 0, none⟩) (by simp) _).setCell (p := ⟨fv + 1, 1, none⟩) (by simp) _
                have hs10 : ((w9.setCell ⟨fv + 1, 0, none⟩ (.int .i64 (t.1 : Int))).setCell ⟨fv + 1, 1, none⟩ (.bool t.2)).heap.size = w9.heap.size := by simp [World.setCell]
                have hownA := hown10.alloc (.cells #[.int .i64 (t.1 : Int)] 3)
                have hone : Sl (Value.int .i64) (((w9.setCell ⟨fv + 1, 0, none⟩ (.int .i64 (t.1 : Int))).setCell ⟨fv + 1, 1, none⟩ (.bool t.2)).alloc (.cells #[.int .i64 (t.1 : Int)] 3)) (some ⟨w9.heap.size, 0, none⟩) 1 [(t.1 : Int)] := by
                  have := Sl.one (enc := Value.int .i64) ((w9.setCell ⟨fv + 1, 0, none⟩ (.int .i64 (t.1 : Int))).setCell ⟨fv + 1, 1, none⟩ (.bool t.2)) 3 (t.1 : Int)
                  rwa [hs10] at this
                have hbase : fv + 2 ≤ (((w9.setCell ⟨fv + 1, 0, none⟩ (.int .i64 (t.1 : Int))).setCell ⟨fv + 1, 1, none⟩ (.bool t.2)).alloc (.cells #[.int .i64 (t.1 : Int)] 3)).heap.size := by
                  have h1 := hnw9.lt
                  rw [show ∀ (w : World) (o : Obj), (w.alloc o).heap.size = w.heap.size + 1 from fun w o => by simp, hs10]; omega
                have hk8 : (kk + 1) * 8 ≤ 140737488355328 := by have := HW.out.2.1; have := HW.out.2.2.1; omega
                have HY := Lib.hid (And.intro hbst (And.intro hrow (And.intro hfv10 (And.intro hnw10 (And.intro hbl10 hs10)))))
                clear hbst hrow hfv10 hnw10 hbl10 hs10 hown9 hown10 hfv9 hnw9 hbl9 hbw9 hbb hT9 hb9 hk9 v0 v1 v2 v3 p0 p1 hnl hOn f0 n0 n1
                go_wp2_with (first
                  | (at_builtin; refine wpList_app _ eiInt (Value.int .i64) (fun _ => rfl) rfl _ _ rfl (fv + 2) _ _ _ _ rfl hownA _ _ _ _ rfl hone hk8 hbase ?_)
                  | fail)
                intro A11 c11 w11 ho11 hg11 hb11 _
                have hob : ∀ b, (Value.slice AA kk cc).ownBlock = some b → fv + 2 ≤ b := fun b e => by
                  rcases hownA.at_row with h1 | ⟨g', h1, h2, _⟩
                  · rw [h1] at e; cases e
                  · rw [h1] at e; have e3 : g' = b := Option.some.inj e; omega
                have hfv11 := (HY.out.2.2.1.alloc (.cells #[.int .i64 (t.1 : Int)] 3)).grown hg11 (by intro e; have := hob fv e.symm; omega)
                have hnw11 := (HY.out.2.2.2.1.alloc (.cells #[.int .i64 (t.1 : Int)] 3)).grown hg11 (by intro e; have := hob (fv + 1) e.symm; omega)
                have hbl11 : Below fv w4 w11 := (HY.out.2.2.2.2.1.alloc (by have := HY.out.2.2.2.2.1.size; omega) (.cells #[.int .i64 (t.1 : Int)] 3)).trans (hb11.mono (by omega))
                have ho11 : OwnR (Value.int .i64) w11 (fv + 2) 3 A11 (kk + 1) c11 (castL ((t :: s :: l).map (·.1)).reverse) := by
                  first
                    | (rw [lists_rev]; exact ho11)
                    | simpa [castL] using ho11
                have htw : Tw (toG Ps) given n x y fv ob A11 (kk + 1) c11 m t (s :: l) w4 w11 := ⟨.more hA.out.grd HY.out.1.1, ho11, hfv11, hnw11, hbl11, HY.out.1.2⟩
                have HE2 := Lib.hid htw
                clear htw ho11 hg11 hb11 hob hfv11 hnw11 hbl11 hownA hone
                go_wp2_with fail
                go_roundg m
                case measure => omega
                case rel => exact ⟨m, kk + 1, c11, A11, t, s :: l, Nat.le_refl _, rfl, (show Aside _ from HE2.out)⟩
  · have HE := Lib.hid hE
    have hbx := hbw.alloc hbw.size (.cells #[.slice A1 na ca, .slice Y1 nb cb, .slice Z1 k1 c1, .slice D1 k2 c2] 57)
    have HB := Lib.hid hbx
    clear hbw hbx hv
    go_wp2_with fail
    go_ret2
    refine ⟨none, 0, 0, rfl, ?_, HB.out⟩
    unfold trailW
    rw [if_neg HE.out]
    exact OwnR.nil _ _ _ _
end Go.Proofs.Ytaibdlnolpbpiaa
