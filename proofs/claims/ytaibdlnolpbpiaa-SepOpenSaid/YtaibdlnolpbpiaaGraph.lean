/- Plain law: graphs of parents: orders in which each point stands behind its parents; what is above. No condition. -/
import Derived.Test.YtaibdlnolpbpiaaBase
namespace Go.Proofs.Ytaibdlnolpbpiaa

section
variable {α : Type} [Inhabited α] (p : α → Bool)
theorem all_take_succ {xs : List α} {k : Nat} (h : k < xs.length) : (xs.take (k + 1)).all p = ((xs.take k).all p && p (nth xs k)) := by
  rw [take_snoc h, List.all_append]; simp
theorem any_take_succ {xs : List α} {k : Nat} (h : k < xs.length) : (xs.take (k + 1)).any p = ((xs.take k).any p || p (nth xs k)) := by
  rw [take_snoc h, List.any_append]; simp
theorem all_down {xs : List α} {k : Nat} (h : k < xs.length) (hp : p (nth xs k) = false) : xs.all p = false := by
  rw [← Bool.not_eq_true]; intro h1
  have := List.all_eq_true.1 h1 _ (nth_mem h)
  rw [hp] at this; cases this
theorem any_upp {xs : List α} {k : Nat} (h : k < xs.length) (hp : p (nth xs k) = true) : xs.any p = true := List.any_eq_true.2 ⟨_, nth_mem h, hp⟩
omit [Inhabited α] in
theorem take_all {xs : List α} {k : Nat} (h : xs.length ≤ k) : xs.take k = xs := List.take_of_length_le h
theorem all_nth {xs : List α} (h : xs.all p = true) {k : Nat} (hk : k < xs.length) : p (nth xs k) = true := List.all_eq_true.1 h _ (nth_mem hk)
end

/-- is each number of a list a point of n? -/
def inRow (n : Nat) (l : List Int) : Bool := l.all fun p => decide (0 ≤ p) && decide (p < (n : Int))
def inR (Ps : List (List Int)) : Bool := Ps.all (inRow Ps.length)
/-- is what stands at place k in the list ahead of it? -/
def dupAt {α : Type} [Inhabited α] [BEq α] (l : List α) (k : Nat) : Bool := (l.take k).contains (nth l k)
def dupTo {α : Type} [Inhabited α] [BEq α] (l : List α) (k : Nat) : Bool := (List.range k).any (dupAt l)
def dup {α : Type} [Inhabited α] [BEq α] (l : List α) : Bool := dupTo l l.length
theorem dupTo_succ {α : Type} [Inhabited α] [BEq α] (l : List α) (k : Nat) : dupTo l (k + 1) = (dupTo l k || dupAt l k) := by
  unfold dupTo; rw [List.range_succ, List.any_append]; simp
theorem dup_up {α : Type} [Inhabited α] [BEq α] {l : List α} {k : Nat} (h : k < l.length) (hd : dupAt l k = true) : dup l = true :=
  List.any_eq_true.2 ⟨k, List.mem_range.2 h, hd⟩
theorem dup_nodup {α : Type} [Inhabited α] [BEq α] [LawfulBEq α] {l : List α} (h : dup l = false) : l.Nodup := by
  rw [List.nodup_iff_pairwise_ne, List.pairwise_iff_getElem]
  intro i j hi hj hij e
  have h1 : dupAt l j = true := by
    unfold dupAt
    rw [List.contains_iff_mem, nth_eq hj, ← e]
    rw [List.mem_take_iff_getElem]
    exact ⟨i, by omega, rfl⟩
  rw [dup_up hj h1] at h
  cases h
theorem nodup_dup {α : Type} [Inhabited α] [BEq α] [LawfulBEq α] {l : List α} (h : l.Nodup) : dup l = false := by
  rw [← Bool.not_eq_true]
  intro h1
  obtain ⟨k, hk, hd⟩ := List.any_eq_true.1 h1
  rw [List.mem_range] at hk
  unfold dupAt at hd
  rw [List.contains_iff_mem, List.mem_take_iff_getElem] at hd
  obtain ⟨i, hi, e⟩ := hd
  rw [nth_eq hk] at e
  have := (List.getElem_inj h (h₀ := by omega) (h₁ := hk)).1 e
  omega

/-- the graph: parents as numbers from 0 on -/
def toG (Ps : List (List Int)) : List (List Nat) := Ps.map fun l => l.map Int.toNat
theorem toG_length (Ps : List (List Int)) : (toG Ps).length = Ps.length := by simp [toG]
theorem nth_toG {Ps : List (List Int)} {i : Nat} (h : i < Ps.length) : nth (toG Ps) i = (nth Ps i).map Int.toNat := by unfold toG; rw [nth_map _ h]
/-- each parent is a point -/
def GoodG (G : List (List Nat)) : Prop := ∀ i, i < G.length → ∀ p, p ∈ nth G i → p < G.length
theorem inRow_iff {n : Nat} {l : List Int} : inRow n l = true ↔ ∀ p ∈ l, 0 ≤ p ∧ p < (n : Int) := by
  unfold inRow; rw [List.all_eq_true]; simp
theorem inR_row {Ps : List (List Int)} (h : inR Ps = true) {i : Nat} (hi : i < Ps.length) : ∀ p ∈ nth Ps i, 0 ≤ p ∧ p < (Ps.length : Int) := inRow_iff.1 (all_nth _ h hi)
theorem good_toG {Ps : List (List Int)} (h : inR Ps = true) : GoodG (toG Ps) := by
  intro i hi p hp
  rw [toG_length] at hi ⊢
  rw [nth_toG hi] at hp
  obtain ⟨q, hq, rfl⟩ := List.mem_map.1 hp
  have := inR_row h hi q hq
  omega

/-- there is no way that leads back -/
def Acyc (G : List (List Nat)) : Prop := ∃ r : Nat → Nat, ∀ i, i < G.length → ∀ p, p ∈ nth G i → r p < r i
/-- an order in which each point stands behind its parents -/
structure Kahn (G : List (List Nat)) (L : List Nat) : Prop where
  nodup : L.Nodup
  lt : ∀ x, x ∈ L → x < G.length
  behind : ∀ k, k < L.length → ∀ p, p ∈ nth G (nth L k) → p ∈ L.take k
theorem Kahn.nil (G : List (List Nat)) : Kahn G [] := ⟨List.nodup_nil, by simp, by simp⟩
theorem Kahn.snoc {G : List (List Nat)} {L : List Nat} (h : Kahn G L) {x : Nat} (hx : x < G.length) (hn : x ∉ L) (hp : ∀ p, p ∈ nth G x → p ∈ L) : Kahn G (L ++ [x]) := by
  refine ⟨?_, ?_, ?_⟩
  · rw [List.nodup_append]
    exact ⟨h.nodup, by simp, fun a ha b hb e => hn (by simp at hb; subst hb; subst e; exact ha)⟩
  · intro y hy
    rw [List.mem_append, List.mem_singleton] at hy
    rcases hy with hy | rfl
    · exact h.lt y hy
    · exact hx
  · intro k hk p hpk
    rw [List.length_append, List.length_singleton] at hk
    rcases Nat.lt_or_ge k L.length with h1 | h1
    · rw [nth_append_left h1] at hpk
      rw [List.take_append_of_le_length (by omega)]
      exact h.behind k h1 p hpk
    · obtain rfl : k = L.length := by omega
      rw [nth_append_right (Nat.le_refl _), Nat.sub_self] at hpk
      rw [List.take_left']
      · exact hp p hpk
      · rfl
/-- a list without repeats of numbers below n has no more than n; fewer: one is wanting -/
theorem nodup_lt_length {L : List Nat} {n : Nat} (h : L.Nodup) (hl : ∀ x, x ∈ L → x < n) : L.length ≤ n := by
  have : L ⊆ List.range n := fun x hx => List.mem_range.2 (hl x hx)
  have := h.length_le_of_subset this
  simpa using this
theorem wanting {L : List Nat} {n : Nat} (hl : L.length < n) : ∃ i, i < n ∧ i ∉ L := by
  apply Classical.byContradiction
  intro h
  have hsub : List.range n ⊆ L := fun x hx => by
    rw [List.mem_range] at hx
    apply Classical.byContradiction
    intro hn
    exact h ⟨x, hx, hn⟩
  have := (List.nodup_range (n := n)).length_le_of_subset hsub
  simp at this
  omega
theorem full {L : List Nat} {n : Nat} (h : L.Nodup) (hl : ∀ x, x ∈ L → x < n) (hn : L.length = n) {i : Nat} (hi : i < n) : i ∈ L := by
  apply Classical.byContradiction
  intro hi'
  have h2 : (i :: L).Nodup := List.nodup_cons.2 ⟨hi', h⟩
  have := nodup_lt_length h2 (n := n) (by intro x hx; rcases List.mem_cons.1 hx with rfl | hx; exact hi; exact hl x hx)
  simp at this
  omega
theorem Kahn.length_le {G : List (List Nat)} {L : List Nat} (h : Kahn G L) : L.length ≤ G.length := nodup_lt_length h.nodup h.lt
theorem Kahn.acyc {G : List (List Nat)} {L : List Nat} (h : Kahn G L) (hn : L.length = G.length) : Acyc G := by
  refine ⟨fun x => L.idxOf x, fun i hi p hp => ?_⟩
  have hiL := full h.nodup h.lt hn hi
  have hk : L.idxOf i < L.length := List.idxOf_lt_length_of_mem hiL
  have h1 := h.behind (L.idxOf i) hk p (by rw [nth_eq hk, List.getElem_idxOf]; exact hp)
  obtain ⟨j, hj, e⟩ := List.mem_take_iff_getElem.1 h1
  have h2 : L.idxOf p ≤ j := by
    rw [← e]
    exact Nat.le_of_eq (h.nodup.idxOf_getElem _ _)
  show L.idxOf p < L.idxOf i
  omega
theorem least_bad {P : Nat → Prop} (r : Nat → Nat) : ∀ (n i : Nat), r i ≤ n → P i → ∃ j, P j ∧ ∀ k, P k → r j ≤ r k
  | 0, i, h, hp => ⟨i, hp, fun k _ => by omega⟩
  | n + 1, i, h, hp => by
    by_cases hex : ∃ k, P k ∧ r k ≤ n
    · obtain ⟨k, hk, hr⟩ := hex
      exact least_bad r n k hr hk
    · refine ⟨i, hp, fun k hk => ?_⟩
      have : ¬ r k ≤ n := fun h1 => hex ⟨k, hk, h1⟩
      omega
/-- where none can be put behind it any more, it has all points just if no way leads back -/
theorem Kahn.full_iff {G : List (List Nat)} {L : List Nat} (h : Kahn G L) (hg : GoodG G) (hs : ∀ i, i < G.length → i ∉ L → ∃ p, p ∈ nth G i ∧ p ∉ L) : L.length = G.length ↔ Acyc G := by
  refine ⟨h.acyc, fun ⟨r, hr⟩ => ?_⟩
  apply Classical.byContradiction
  intro hne
  have hlt : L.length < G.length := by have := h.length_le; omega
  obtain ⟨i, hi, hn⟩ := wanting hlt
  obtain ⟨j, ⟨hj1, hj2⟩, hmin⟩ := least_bad (P := fun i => i < G.length ∧ i ∉ L) r (r i) i (Nat.le_refl _) ⟨hi, hn⟩
  obtain ⟨p, hp1, hp2⟩ := hs j hj1 hj2
  have := hmin p ⟨hg j hj1 p hp1, hp2⟩
  have := hr j hj1 p hp1
  omega

open Classical in
/-- why parents may not be -/
noncomputable def checkP (Ps : List (List Int)) : Int := if inR Ps = false then 3 else if Ps.any dup = true then 40 else if Acyc (toG Ps) then 0 else 42
theorem checkP_3 {Ps : List (List Int)} (h : inR Ps = false) : checkP Ps = 3 := by unfold checkP; rw [if_pos h]
theorem checkP_40 {Ps : List (List Int)} (h : inR Ps = true) (h2 : Ps.any dup = true) : checkP Ps = 40 := by unfold checkP; rw [if_neg (by rw [h]; simp), if_pos h2]
theorem checkP_0 {Ps : List (List Int)} (h : inR Ps = true) (h2 : Ps.any dup = false) (h3 : Acyc (toG Ps)) : checkP Ps = 0 := by unfold checkP; rw [if_neg (by rw [h]; simp), if_neg (by rw [h2]; simp), if_pos h3]
theorem checkP_42 {Ps : List (List Int)} (h : inR Ps = true) (h2 : Ps.any dup = false) (h3 : ¬ Acyc (toG Ps)) : checkP Ps = 42 := by unfold checkP; rw [if_neg (by rw [h]; simp), if_neg (by rw [h2]; simp), if_neg h3]
theorem checkP_ok {Ps : List (List Int)} (h : checkP Ps = 0) : inR Ps = true ∧ Ps.any dup = false ∧ Acyc (toG Ps) := by
  unfold checkP at h
  split at h
  · omega
  · split at h
    · omega
    · split at h
      · exact ⟨by simpa using ‹¬ inR Ps = false›, by simpa using ‹¬ Ps.any dup = true›, ‹_›⟩
      · omega
theorem checkP_le (Ps : List (List Int)) : 0 ≤ checkP Ps ∧ checkP Ps ≤ 42 := by
  unfold checkP
  repeat' split
  all_goals omega
end Go.Proofs.Ytaibdlnolpbpiaa
