/- Joined by program out of: Graph, Up, Lists. What each says stands at its own head. -/
import Derived.Test.YtgmchedfgdgenaaBase
import Derived.Test.YtgmchedfgdgenaaJ1
/- Plain law: graphs of parents: orders in which each point stands behind its parents; what is above. No condition. -/
namespace Go.Proofs.Ytgmchedfgdgenaa

section
variable {α : Type} [Inhabited α] (p : α → Bool)
theorem all_take_succ {xs : List α} {k : Nat} (h : k < xs.length) : (xs.take (k + 1)).all p = ((xs.take k).all p && p (nth xs k)) := by
  rw [take_snoc h, List.all_append]; simp
theorem any_take_succ {xs : List α} {k : Nat} (h : k < xs.length) : (xs.take (k + 1)).any p = ((xs.take k).any p || p (nth xs k)) := by
  rw [take_snoc h, List.any_append]; simp
theorem all_down {xs : List α} {k : Nat} (h : k < xs.length) (hp : p (nth xs k) = false) : xs.all p = false := by
  rw [← Bool.not_eq_true]; intro h1
  have := List.all_eq_true.1 h1 _ (nth_mem h)
  rw [hp] at this; cases this
theorem any_upp {xs : List α} {k : Nat} (h : k < xs.length) (hp : p (nth xs k) = true) : xs.any p = true := List.any_eq_true.2 ⟨_, nth_mem h, hp⟩
omit [Inhabited α] in
theorem take_all {xs : List α} {k : Nat} (h : xs.length ≤ k) : xs.take k = xs := List.take_of_length_le h
theorem all_nth {xs : List α} (h : xs.all p = true) {k : Nat} (hk : k < xs.length) : p (nth xs k) = true := List.all_eq_true.1 h _ (nth_mem hk)
end

/-- is each number of a list a point of n? -/
def inRow (n : Nat) (l : List Int) : Bool := l.all fun p => decide (0 ≤ p) && decide (p < (n : Int))
def inR (Ps : List (List Int)) : Bool := Ps.all (inRow Ps.length)
/-- is what stands at place k in the list ahead of it? -/
def dupAt {α : Type} [Inhabited α] [BEq α] (l : List α) (k : Nat) : Bool := (l.take k).contains (nth l k)
def dupTo {α : Type} [Inhabited α] [BEq α] (l : List α) (k : Nat) : Bool := (List.range k).any (dupAt l)
def dup {α : Type} [Inhabited α] [BEq α] (l : List α) : Bool := dupTo l l.length
theorem dupTo_succ {α : Type} [Inhabited α] [BEq α] (l : List α) (k : Nat) : dupTo l (k + 1) = (dupTo l k || dupAt l k) := by
  unfold dupTo; rw [List.range_succ, List.any_append]; simp
theorem dup_up {α : Type} [Inhabited α] [BEq α] {l : List α} {k : Nat} (h : k < l.length) (hd : dupAt l k = true) : dup l = true :=
  List.any_eq_true.2 ⟨k, List.mem_range.2 h, hd⟩
theorem dup_nodup {α : Type} [Inhabited α] [BEq α] [LawfulBEq α] {l : List α} (h : dup l = false) : l.Nodup := by
  rw [List.nodup_iff_pairwise_ne, List.pairwise_iff_getElem]
  intro i j hi hj hij e
  have h1 : dupAt l j = true := by
    unfold dupAt
    rw [List.contains_iff_mem, nth_eq hj, ← e]
    rw [List.mem_take_iff_getElem]
    exact ⟨i, by omega, rfl⟩
  rw [dup_up hj h1] at h
  cases h
theorem nodup_dup {α : Type} [Inhabited α] [BEq α] [LawfulBEq α] {l : List α} (h : l.Nodup) : dup l = false := by
  rw [← Bool.not_eq_true]
  intro h1
  obtain ⟨k, hk, hd⟩ := List.any_eq_true.1 h1
  rw [List.mem_range] at hk
  unfold dupAt at hd
  rw [List.contains_iff_mem, List.mem_take_iff_getElem] at hd
  obtain ⟨i, hi, e⟩ := hd
  rw [nth_eq hk] at e
  have := (List.getElem_inj h (h₀ := by omega) (h₁ := hk)).1 e
  omega

/-- the graph: parents as numbers from 0 on -/
def toG (Ps : List (List Int)) : List (List Nat) := Ps.map fun l => l.map Int.toNat
theorem toG_length (Ps : List (List Int)) : (toG Ps).length = Ps.length := by simp [toG]
theorem nth_toG {Ps : List (List Int)} {i : Nat} (h : i < Ps.length) : nth (toG Ps) i = (nth Ps i).map Int.toNat := by unfold toG; rw [nth_map _ h]
/-- each parent is a point -/
def GoodG (G : List (List Nat)) : Prop := ∀ i, i < G.length → ∀ p, p ∈ nth G i → p < G.length
theorem inRow_iff {n : Nat} {l : List Int} : inRow n l = true ↔ ∀ p ∈ l, 0 ≤ p ∧ p < (n : Int) := by
  unfold inRow; rw [List.all_eq_true]; simp
theorem inR_row {Ps : List (List Int)} (h : inR Ps = true) {i : Nat} (hi : i < Ps.length) : ∀ p ∈ nth Ps i, 0 ≤ p ∧ p < (Ps.length : Int) := inRow_iff.1 (all_nth _ h hi)
theorem good_toG {Ps : List (List Int)} (h : inR Ps = true) : GoodG (toG Ps) := by
  intro i hi p hp
  rw [toG_length] at hi ⊢
  rw [nth_toG hi] at hp
  obtain ⟨q, hq, rfl⟩ := List.mem_map.1 hp
  have := inR_row h hi q hq
  omega

/-- there is no way that leads back -/
def Acyc (G : List (List Nat)) : Prop := ∃ r : Nat → Nat, ∀ i, i < G.length → ∀ p, p ∈ nth G i → r p < r i
/-- an order in which each point stands behind its parents -/
structure Kahn (G : List (List Nat)) (L : List Nat) : Prop where
  nodup : L.Nodup
  lt : ∀ x, x ∈ L → x < G.length
  behind : ∀ k, k < L.length → ∀ p, p ∈ nth G (nth L k) → p ∈ L.take k
theorem Kahn.nil (G : List (List Nat)) : Kahn G [] := ⟨List.nodup_nil, by simp, by simp⟩
theorem Kahn.snoc {G : List (List Nat)} {L : List Nat} (h : Kahn G L) {x : Nat} (hx : x < G.length) (hn : x ∉ L) (hp : ∀ p, p ∈ nth G x → p ∈ L) : Kahn G (L ++ [x]) := by
  refine ⟨?_, ?_, ?_⟩
  · rw [List.nodup_append]
    exact ⟨h.nodup, by simp, fun a ha b hb e => hn (by simp at hb; subst hb; subst e; exact ha)⟩
  · intro y hy
    rw [List.mem_append, List.mem_singleton] at hy
    rcases hy with hy | rfl
    · exact h.lt y hy
    · exact hx
  · intro k hk p hpk
    rw [List.length_append, List.length_singleton] at hk
    rcases Nat.lt_or_ge k L.length with h1 | h1
    · rw [nth_append_left h1] at hpk
      rw [List.take_append_of_le_length (by omega)]
      exact h.behind k h1 p hpk
    · obtain rfl : k = L.length := by omega
      rw [nth_append_right (Nat.le_refl _), Nat.sub_self] at hpk
      rw [List.take_left']
      · exact hp p hpk
      · rfl
/-- a list without repeats of numbers below n has no more than n; fewer: one is wanting -/
theorem nodup_lt_length {L : List Nat} {n : Nat} (h : L.Nodup) (hl : ∀ x, x ∈ L → x < n) : L.length ≤ n := by
  have : L ⊆ List.range n := fun x hx => List.mem_range.2 (hl x hx)
  have := h.length_le_of_subset this
  simpa using this
theorem wanting {L : List Nat} {n : Nat} (hl : L.length < n) : ∃ i, i < n ∧ i ∉ L := by
  apply Classical.byContradiction
  intro h
  have hsub : List.range n ⊆ L := fun x hx => by
    rw [List.mem_range] at hx
    apply Classical.byContradiction
    intro hn
    exact h ⟨x, hx, hn⟩
  have := (List.nodup_range (n := n)).length_le_of_subset hsub
  simp at this
  omega
theorem full {L : List Nat} {n : Nat} (h : L.Nodup) (hl : ∀ x, x ∈ L → x < n) (hn : L.length = n) {i : Nat} (hi : i < n) : i ∈ L := by
  apply Classical.byContradiction
  intro hi'
  have h2 : (i :: L).Nodup := List.nodup_cons.2 ⟨hi', h⟩
  have := nodup_lt_length h2 (n := n) (by intro x hx; rcases List.mem_cons.1 hx with rfl | hx; exact hi; exact hl x hx)
  simp at this
  omega
theorem Kahn.length_le {G : List (List Nat)} {L : List Nat} (h : Kahn G L) : L.length ≤ G.length := nodup_lt_length h.nodup h.lt
theorem Kahn.acyc {G : List (List Nat)} {L : List Nat} (h : Kahn G L) (hn : L.length = G.length) : Acyc G := by
  refine ⟨fun x => L.idxOf x, fun i hi p hp => ?_⟩
  have hiL := full h.nodup h.lt hn hi
  have hk : L.idxOf i < L.length := List.idxOf_lt_length_of_mem hiL
  have h1 := h.behind (L.idxOf i) hk p (by rw [nth_eq hk, List.getElem_idxOf]; exact hp)
  obtain ⟨j, hj, e⟩ := List.mem_take_iff_getElem.1 h1
  have h2 : L.idxOf p ≤ j := by
    rw [← e]
    exact Nat.le_of_eq (h.nodup.idxOf_getElem _ _)
  show L.idxOf p < L.idxOf i
  omega
theorem least_bad {P : Nat → Prop} (r : Nat → Nat) : ∀ (n i : Nat), r i ≤ n → P i → ∃ j, P j ∧ ∀ k, P k → r j ≤ r k
  | 0, i, h, hp => ⟨i, hp, fun k _ => by omega⟩
  | n + 1, i, h, hp => by
    by_cases hex : ∃ k, P k ∧ r k ≤ n
    · obtain ⟨k, hk, hr⟩ := hex
      exact least_bad r n k hr hk
    · refine ⟨i, hp, fun k hk => ?_⟩
      have : ¬ r k ≤ n := fun h1 => hex ⟨k, hk, h1⟩
      omega
/-- where none can be put behind it any more, it has all points just if no way leads back -/
theorem Kahn.full_iff {G : List (List Nat)} {L : List Nat} (h : Kahn G L) (hg : GoodG G) (hs : ∀ i, i < G.length → i ∉ L → ∃ p, p ∈ nth G i ∧ p ∉ L) : L.length = G.length ↔ Acyc G := by
  refine ⟨h.acyc, fun ⟨r, hr⟩ => ?_⟩
  apply Classical.byContradiction
  intro hne
  have hlt : L.length < G.length := by have := h.length_le; omega
  obtain ⟨i, hi, hn⟩ := wanting hlt
  obtain ⟨j, ⟨hj1, hj2⟩, hmin⟩ := least_bad (P := fun i => i < G.length ∧ i ∉ L) r (r i) i (Nat.le_refl _) ⟨hi, hn⟩
  obtain ⟨p, hp1, hp2⟩ := hs j hj1 hj2
  have := hmin p ⟨hg j hj1 p hp1, hp2⟩
  have := hr j hj1 p hp1
  omega

open Classical in
/-- why parents may not be -/
noncomputable def checkP (Ps : List (List Int)) : Int := if inR Ps = false then 3 else if Ps.any dup = true then 40 else if Acyc (toG Ps) then 0 else 42
theorem checkP_3 {Ps : List (List Int)} (h : inR Ps = false) : checkP Ps = 3 := by unfold checkP; rw [if_pos h]
theorem checkP_40 {Ps : List (List Int)} (h : inR Ps = true) (h2 : Ps.any dup = true) : checkP Ps = 40 := by unfold checkP; rw [if_neg (by rw [h]; simp), if_pos h2]
theorem checkP_0 {Ps : List (List Int)} (h : inR Ps = true) (h2 : Ps.any dup = false) (h3 : Acyc (toG Ps)) : checkP Ps = 0 := by unfold checkP; rw [if_neg (by rw [h]; simp), if_neg (by rw [h2]; simp), if_pos h3]
theorem checkP_42 {Ps : List (List Int)} (h : inR Ps = true) (h2 : Ps.any dup = false) (h3 : ¬ Acyc (toG Ps)) : checkP Ps = 42 := by unfold checkP; rw [if_neg (by rw [h]; simp), if_neg (by rw [h2]; simp), if_neg h3]
theorem checkP_ok {Ps : List (List Int)} (h : checkP Ps = 0) : inR Ps = true ∧ Ps.any dup = false ∧ Acyc (toG Ps) := by
  unfold checkP at h
  split at h
  · omega
  · split at h
    · omega
    · split at h
      · exact ⟨by simpa using ‹¬ inR Ps = false›, by simpa using ‹¬ Ps.any dup = true›, ‹_›⟩
      · omega
theorem checkP_le (Ps : List (List Int)) : 0 ≤ checkP Ps ∧ checkP Ps ≤ 42 := by
  unfold checkP
  repeat' split
  all_goals omega
end Go.Proofs.Ytgmchedfgdgenaa
/- Plain law: what is come to from some points along the ways; rising lists of points. No condition. -/
namespace Go.Proofs.Ytgmchedfgdgenaa

/-- what is come to from some points along the ways -/
inductive Up (W : List (List Nat)) (S : Nat → Prop) : Nat → Prop
  | base {x : Nat} : S x → Up W S x
  | step {x p : Nat} : Up W S x → p ∈ nth W x → Up W S p
theorem Up.mono {W : List (List Nat)} {S T : Nat → Prop} (h : ∀ x, S x → T x) {x : Nat} (hx : Up W S x) : Up W T x := by
  induction hx with
  | base hs => exact .base (h _ hs)
  | step _ hp ih => exact .step ih hp
theorem Up.trans {W : List (List Nat)} {S T : Nat → Prop} (h : ∀ x, S x → Up W T x) {x : Nat} (hx : Up W S x) : Up W T x := by
  induction hx with
  | base hs => exact h _ hs
  | step _ hp ih => exact .step ih hp
theorem Up.lt {W : List (List Nat)} {S : Nat → Prop} (hg : GoodG W) (hs : ∀ x, S x → x < W.length) {x : Nat} (hx : Up W S x) : x < W.length := by
  induction hx with
  | base h => exact hs _ h
  | step _ hp ih => exact hg _ ih _ hp
/-- a list that holds the points, and with each what its ways lead to, and no more than is come to, is what is come to -/
theorem up_iff {W : List (List Nat)} {S : Nat → Prop} {L : List Nat} (h1 : ∀ x, S x → x ∈ L) (h2 : ∀ x, x ∈ L → ∀ p, p ∈ nth W x → p ∈ L) (h3 : ∀ x, x ∈ L → Up W S x) (x : Nat) : x ∈ L ↔ Up W S x := by
  refine ⟨h3 x, fun h => ?_⟩
  induction h with
  | base hs => exact h1 _ hs
  | step _ hp ih => exact h2 _ ih _ hp

/-- a rising list -/
abbrev Rising (l : List Nat) : Prop := l.Pairwise (· < ·)
theorem rising_ext : ∀ {a b : List Nat}, Rising a → Rising b → (∀ x, x ∈ a ↔ x ∈ b) → a = b
  | [], [], _, _, _ => rfl
  | [], y :: b, _, _, h => by have := (h y).2 (by simp); simp at this
  | x :: a, [], _, _, h => by have := (h x).1 (by simp); simp at this
  | x :: a, y :: b, ha, hb, h => by
    have ha' := List.pairwise_cons.1 ha
    have hb' := List.pairwise_cons.1 hb
    have hxy : x = y := by
      rcases List.mem_cons.1 ((h x).1 (by simp)) with e | e
      · exact e
      · rcases List.mem_cons.1 ((h y).2 (by simp)) with e2 | e2
        · exact e2.symm
        · have h1 := hb'.1 x e
          have h2 := ha'.1 y e2
          omega
    subst hxy
    congr 1
    refine rising_ext ha'.2 hb'.2 fun z => ⟨fun hz => ?_, fun hz => ?_⟩
    · rcases List.mem_cons.1 ((h z).1 (List.mem_cons_of_mem _ hz)) with e | e
      · subst e; have := ha'.1 z hz; omega
      · exact e
    · rcases List.mem_cons.1 ((h z).2 (List.mem_cons_of_mem _ hz)) with e | e
      · subst e; have := hb'.1 z hz; omega
      · exact e
theorem rising_filter (n : Nat) (p : Nat → Bool) : Rising ((List.range n).filter p) := (List.pairwise_lt_range).sublist List.filter_sublist

open Classical in
/-- those of n points that meet something, rising -/
noncomputable def ptsOf (n : Nat) (P : Nat → Prop) : List Nat := (List.range n).filter fun x => decide (P x)
theorem mem_ptsOf {n : Nat} {P : Nat → Prop} {x : Nat} : x ∈ ptsOf n P ↔ x < n ∧ P x := by
  unfold ptsOf; rw [List.mem_filter, List.mem_range]; simp
theorem rising_ptsOf (n : Nat) (P : Nat → Prop) : Rising (ptsOf n P) := rising_filter _ _
theorem ptsOf_eq {n : Nat} {P : Nat → Prop} {l : List Nat} (hr : Rising l) (h : ∀ x, x ∈ l ↔ x < n ∧ P x) : l = ptsOf n P :=
  rising_ext hr (rising_ptsOf _ _) fun x => by rw [h, mem_ptsOf]
theorem ptsOf_congr {n : Nat} {P Q : Nat → Prop} (h : ∀ x, x < n → (P x ↔ Q x)) : ptsOf n P = ptsOf n Q :=
  ptsOf_eq (rising_ptsOf _ _) fun x => by rw [mem_ptsOf]; exact ⟨fun ⟨a, b⟩ => ⟨a, (h x a).1 b⟩, fun ⟨a, b⟩ => ⟨a, (h x a).2 b⟩⟩
theorem ptsOf_length_le (n : Nat) (P : Nat → Prop) : (ptsOf n P).length ≤ n := by
  unfold ptsOf; have := List.length_filter_le (fun x => @decide (P x) (Classical.propDecidable _)) (List.range n); simpa using this
/-- what is come to, rising -/
noncomputable def upList (W : List (List Nat)) (S : List Nat) : List Nat := ptsOf W.length (Up W (· ∈ S))
theorem mem_upList {W : List (List Nat)} {S : List Nat} (hg : GoodG W) (hs : ∀ x, x ∈ S → x < W.length) {x : Nat} : x ∈ upList W S ↔ Up W (· ∈ S) x := by
  unfold upList; rw [mem_ptsOf]; exact ⟨fun h => h.2, fun h => ⟨h.lt hg hs, h⟩⟩
/-- a list without repeats, rising once it is sorted -/
theorem rising_of_sorted {l : List Nat} (h : l.Pairwise (· ≤ ·)) (hn : l.Nodup) : Rising l := by
  rw [List.nodup_iff_pairwise_ne] at hn
  exact (h.and hn).imp fun ⟨a, b⟩ => by omega

/-- two places of a list exchanged -/
def swapL (l : List Nat) (i j : Nat) : List Nat := (l.set i (nth l j)).set j (nth l i)
theorem swapL_length (l : List Nat) (i j : Nat) : (swapL l i j).length = l.length := by unfold swapL; simp
theorem swapL_perm {l : List Nat} {i j : Nat} (hi : i < l.length) (hj : j < l.length) : (swapL l i j).Perm l := by
  rw [List.perm_iff_count]
  intro a
  unfold swapL
  rw [List.count_set (by simpa using hj), List.count_set hi]
  by_cases hij : i = j
  · subst hij
    rw [List.getElem_set_self, nth_eq hi]
    have : l[i] == a → 0 < l.count a := fun h => by rw [List.count_pos_iff]; rw [beq_iff_eq] at h; rw [← h]; exact List.getElem_mem hi
    by_cases h : (l[i] == a) = true
    · have := this h; simp only [h, if_true]; omega
    · simp only [h, Bool.false_eq_true, if_false]; omega
  · rw [List.getElem_set_ne hij, nth_eq hi, nth_eq hj]
    have h1 : l[i] == a → 0 < l.count a := fun h => by rw [List.count_pos_iff]; rw [beq_iff_eq] at h; rw [← h]; exact List.getElem_mem hi
    by_cases e1 : (l[i] == a) = true <;> by_cases e2 : (l[j] == a) = true <;> simp only [e1, e2, if_true, Bool.false_eq_true, if_false]
    · have := h1 e1; omega
    · have := h1 e1; omega
    · omega
    · omega
theorem nodup_perm_mem {a b : List Nat} (h : a.Perm b) (hn : b.Nodup) : a.Nodup := h.nodup_iff.2 hn
end Go.Proofs.Ytgmchedfgdgenaa
/- Slices of slices that read as lists of lists; numbers that are points. No condition. -/
namespace Go.Proofs.Ytgmchedfgdgenaa
open Go.RowKit

/-- a number from 0 on, as Go holds it -/
abbrev eN : Nat → Value := fun m => Value.int .i64 (m : Int)
/-- a slice's head, as Go holds it -/
abbrev eS : Option Addr × Nat × Nat → Value := fun v => Value.slice v.1 v.2.1 v.2.2
theorem one_eN (m : Nat) : (eN m).oneCell' = true := rfl
theorem one_eS (v : Option Addr × Nat × Nat) : (eS v).oneCell' = true := rfl

/-- the slice of slices at A reads as the lists L -/
structure Rows {α : Type} [Inhabited α] (enc : α → Value) (w : World) (A : Option Addr) (n : Nat) (L : List (List α)) : Prop where
  ex : ∃ vs : List (Option Addr × Nat × Nat), Sl eS w A n vs ∧ ∀ i, i < n → Sl enc w (nth vs i).1 (nth vs i).2.1 (nth L i) ∧ (nth vs i).2.1 ≤ (nth vs i).2.2
  len : L.length = n
section
variable {α : Type} [Inhabited α] {enc : α → Value} {w w' : World} {A : Option Addr} {n : Nat} {L : List (List α)}
theorem Rows.below (h : Rows enc w A n L) {B : Nat} (hB : w.heap.size ≤ B) (hb : Below B w w') : Rows enc w' A n L := by
  obtain ⟨⟨vs, h1, h2⟩, h3⟩ := h
  exact ⟨⟨vs, h1.below hB hb, fun i hi => ⟨(h2 i hi).1.below hB hb, (h2 i hi).2⟩⟩, h3⟩
instance : Stable (fun w => Rows enc w A n L) := ⟨fun hb h => h.below (Nat.le_refl _) hb⟩
theorem Rows.drewN (h : Rows enc w A n L) (k : Nat) : Rows enc (w.drewN k) A n L := h.below (Nat.le_refl _) (below_refl_drewN _ _ _)
theorem Rows.big (h : Rows enc w A n L) : n ≤ 140737488351232 := by obtain ⟨⟨vs, h1, _⟩, _⟩ := h; exact h1.big
/-- a row of it: its head's cell, and what it reads as -/
theorem Rows.row (h : Rows enc w A n L) {i : Nat} (hi : i < n) : ∃ b off B m d, A = some ⟨b, off, none⟩ ∧ b < w.heap.size ∧ w.cell? ⟨b, off + i, none⟩ = some (.slice B m d) ∧ Sl enc w B m (nth L i) := by
  obtain ⟨⟨vs, h1, h2⟩, _⟩ := h
  obtain ⟨b, off, e, hlt, hc⟩ := h1.at' (by omega)
  exact ⟨b, off, (nth vs i).1, (nth vs i).2.1, (nth vs i).2.2, e, hlt, hc i hi, (h2 i hi).1⟩
/-- .. and that its length is no more than its capacity -/
theorem Rows.rowC (h : Rows enc w A n L) {i : Nat} (hi : i < n) : ∃ b off B m d, A = some ⟨b, off, none⟩ ∧ b < w.heap.size ∧ w.cell? ⟨b, off + i, none⟩ = some (.slice B m d) ∧ Sl enc w B m (nth L i) ∧ m ≤ d := by
  obtain ⟨⟨vs, h1, h2⟩, _⟩ := h
  obtain ⟨b, off, e, hlt, hc⟩ := h1.at' (by omega)
  exact ⟨b, off, (nth vs i).1, (nth vs i).2.1, (nth vs i).2.2, e, hlt, hc i hi, h2 i hi⟩
theorem Rows.take (h : Rows enc w A n L) {k : Nat} (hk : k ≤ n) : Rows enc w A k (L.take k) := by
  obtain ⟨⟨vs, h1, h2⟩, h3⟩ := h
  refine ⟨⟨vs.take k, ⟨by rw [List.length_take, h1.len]; omega, by have := h1.big; omega, fun hp => ?_⟩, fun i hi => ?_⟩, by rw [List.length_take, h3]; omega⟩
  · obtain ⟨b, off, e, hlt, hc⟩ := h1.at' (by omega)
    exact ⟨b, off, e, hlt, fun j hj => by rw [hc j (by omega), nth_take hj]⟩
  · rw [nth_take hi, nth_take hi]; exact h2 i (by omega)
end
/-- an address that lies in a block from base on, if it is one -/
def Fr (base : Nat) (A : Option Addr) : Prop := ∀ b off, A = some ⟨b, off, none⟩ → base ≤ b
theorem Fr.mono {base base' : Nat} {A : Option Addr} (h : Fr base A) (hb : base' ≤ base) : Fr base' A := fun b off e => Nat.le_trans hb (h b off e)
theorem OwnR.fr {α : Type} {enc : α → Value} {w : World} {base : Nat} {e : TypeId} {A : Option Addr} {n c : Nat} {xs : List α} (h : OwnR enc w base e A n c xs) : Fr base A := by
  intro b off e1
  rcases h.2 with ⟨hv, _⟩ | ⟨g, cap, cur, hv, hb, _⟩
  · injection hv with e2; rw [e1] at e2; cases e2
  · injection hv with e2; rw [e1] at e2; injection e2 with e2; injection e2 with e2; omega
/-- what is read lies among the blocks from base on: a store below it leaves it -/
theorem Sl.setLow {α : Type} [Inhabited α] {enc : α → Value} {w : World} {A : Option Addr} {n : Nat} {xs : List α} {base : Nat} (h : Sl enc w A n xs) (hf : Fr base A) {p : Addr} (hp : p.block < base) (v : Value) : Sl enc (w.setCell p v) A n xs :=
  ⟨h.len, h.big, fun hn => by
    obtain ⟨b, off, e, hlt, hc⟩ := h.at' hn
    have hb := hf b off e
    refine ⟨b, off, e, by simpa [World.setCell] using hlt, fun j hj => ?_⟩
    rw [← hc j hj]
    have hne : b ≠ p.block := by omega
    simp only [World.cell?, Below.heap_setCell w p v b hne]⟩
/-- .. a slice of slices -/
def RowsF {α : Type} [Inhabited α] (base : Nat) (enc : α → Value) (w : World) (A : Option Addr) (n : Nat) (L : List (List α)) : Prop :=
  (∃ vs : List (Option Addr × Nat × Nat), Sl eS w A n vs ∧ Fr base A ∧ ∀ i, i < n → Sl enc w (nth vs i).1 (nth vs i).2.1 (nth L i) ∧ Fr base (nth vs i).1 ∧ (nth vs i).2.1 ≤ (nth vs i).2.2) ∧ L.length = n
section
variable {α : Type} [Inhabited α] {enc : α → Value} {w w' : World} {A : Option Addr} {n base : Nat} {L : List (List α)}
theorem RowsF.rows (h : RowsF base enc w A n L) : Rows enc w A n L := by
  obtain ⟨⟨vs, h1, _, h3⟩, h4⟩ := h
  exact ⟨⟨vs, h1, fun i hi => ⟨(h3 i hi).1, (h3 i hi).2.2⟩⟩, h4⟩
theorem RowsF.mono (h : RowsF base enc w A n L) {base' : Nat} (hb : base' ≤ base) : RowsF base' enc w A n L := by
  obtain ⟨⟨vs, h1, h2, h3⟩, h4⟩ := h
  exact ⟨⟨vs, h1, h2.mono hb, fun i hi => ⟨(h3 i hi).1, (h3 i hi).2.1.mono hb, (h3 i hi).2.2⟩⟩, h4⟩
theorem RowsF.below (h : RowsF base enc w A n L) {B : Nat} (hB : w.heap.size ≤ B) (hb : Below B w w') : RowsF base enc w' A n L := by
  obtain ⟨⟨vs, h1, h2, h3⟩, h4⟩ := h
  exact ⟨⟨vs, h1.below hB hb, h2, fun i hi => ⟨(h3 i hi).1.below hB hb, (h3 i hi).2⟩⟩, h4⟩
theorem RowsF.setLow (h : RowsF base enc w A n L) {p : Addr} (hp : p.block < base) (v : Value) : RowsF base enc (w.setCell p v) A n L := by
  obtain ⟨⟨vs, h1, h2, h3⟩, h4⟩ := h
  exact ⟨⟨vs, h1.setLow h2 hp v, h2, fun i hi => ⟨(h3 i hi).1.setLow (h3 i hi).2.1 hp v, (h3 i hi).2⟩⟩, h4⟩
instance : Stable (fun w => RowsF base enc w A n L) := ⟨fun hb h => h.below (Nat.le_refl _) hb⟩
end
theorem Sl.toNat {w : World} {A : Option Addr} {n : Nat} {l : List Int} (h : Sl (Value.int .i64) w A n l) (hl : ∀ p, p ∈ l → 0 ≤ p) : Sl eN w A n (l.map Int.toNat) :=
  ⟨by rw [List.length_map]; exact h.len, h.big, fun hp => by
    obtain ⟨b, off, e, hlt, hc⟩ := h.at' hp
    refine ⟨b, off, e, hlt, fun j hj => ?_⟩
    have hj' : j < l.length := by rw [h.len]; exact hj
    rw [hc j hj, nth_map _ hj']
    have := hl _ (nth_mem hj')
    show some (Value.int .i64 _) = some (Value.int .i64 _)
    congr 2
    omega⟩
theorem Sl.toInt {w : World} {A : Option Addr} {n : Nat} {l : List Nat} (h : Sl eN w A n l) : Sl (Value.int .i64) w A n (l.map fun m : Nat => (m : Int)) :=
  ⟨by rw [List.length_map]; exact h.len, h.big, fun hp => by
    obtain ⟨b, off, e, hlt, hc⟩ := h.at' hp
    refine ⟨b, off, e, hlt, fun j hj => ?_⟩
    rw [hc j hj, nth_map _ (by rw [h.len]; exact hj)]⟩
theorem Rows.toNat {w : World} {A : Option Addr} {n : Nat} {Ps : List (List Int)} (h : Rows (Value.int .i64) w A n Ps) (hr : inR Ps = true) : Rows eN w A n (toG Ps) := by
  have hl := h.len
  obtain ⟨⟨vs, h1, h2⟩, h3⟩ := h
  refine ⟨⟨vs, h1, fun i hi => ?_⟩, by rw [toG_length]; exact h3⟩
  rw [nth_toG (by omega)]
  exact ⟨(h2 i hi).1.toNat fun p hp => (inR_row hr (by omega) p hp).1, (h2 i hi).2⟩
/-- a list of points as a list of ints -/
def castL (l : List Nat) : List Int := l.map fun m : Nat => (m : Int)
theorem castL_snoc (l : List Nat) (x : Nat) : castL (l ++ [x]) = castL l ++ [(x : Int)] := by simp [castL]
theorem mem_castL {l : List Nat} {x : Nat} : ((x : Int) ∈ castL l) ↔ x ∈ l := by
  unfold castL; rw [List.mem_map]
  constructor
  · rintro ⟨y, hy, e⟩
    have : y = x := by omega
    rw [← this]; exact hy
  · exact fun h => ⟨x, h, rfl⟩
end Go.Proofs.Ytgmchedfgdgenaa
