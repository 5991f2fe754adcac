/- Plain law: what is come to from some points along the ways; rising lists of points. No condition. -/
import Derived.Test.YtaibdlnolpbpiaaGraph
namespace Go.Proofs.Ytaibdlnolpbpiaa

/-- what is come to from some points along the ways -/
inductive Up (W : List (List Nat)) (S : Nat → Prop) : Nat → Prop
  | base {x : Nat} : S x → Up W S x
  | step {x p : Nat} : Up W S x → p ∈ nth W x → Up W S p
theorem Up.mono {W : List (List Nat)} {S T : Nat → Prop} (h : ∀ x, S x → T x) {x : Nat} (hx : Up W S x) : Up W T x := by
  induction hx with
  | base hs => exact .base (h _ hs)
  | step _ hp ih => exact .step ih hp
theorem Up.trans {W : List (List Nat)} {S T : Nat → Prop} (h : ∀ x, S x → Up W T x) {x : Nat} (hx : Up W S x) : Up W T x := by
  induction hx with
  | base hs => exact h _ hs
  | step _ hp ih => exact .step ih hp
theorem Up.lt {W : List (List Nat)} {S : Nat → Prop} (hg : GoodG W) (hs : ∀ x, S x → x < W.length) {x : Nat} (hx : Up W S x) : x < W.length := by
  induction hx with
  | base h => exact hs _ h
  | step _ hp ih => exact hg _ ih _ hp
/-- a list that holds the points, and with each what its ways lead to, and no more than is come to, is what is come to -/
theorem up_iff {W : List (List Nat)} {S : Nat → Prop} {L : List Nat} (h1 : ∀ x, S x → x ∈ L) (h2 : ∀ x, x ∈ L → ∀ p, p ∈ nth W x → p ∈ L) (h3 : ∀ x, x ∈ L → Up W S x) (x : Nat) : x ∈ L ↔ Up W S x := by
  refine ⟨h3 x, fun h => ?_⟩
  induction h with
  | base hs => exact h1 _ hs
  | step _ hp ih => exact h2 _ ih _ hp

/-- a rising list -/
abbrev Rising (l : List Nat) : Prop := l.Pairwise (· < ·)
theorem rising_ext : ∀ {a b : List Nat}, Rising a → Rising b → (∀ x, x ∈ a ↔ x ∈ b) → a = b
  | [], [], _, _, _ => rfl
  | [], y :: b, _, _, h => by have := (h y).2 (by simp); simp at this
  | x :: a, [], _, _, h => by have := (h x).1 (by simp); simp at this
  | x :: a, y :: b, ha, hb, h => by
    have ha' := List.pairwise_cons.1 ha
    have hb' := List.pairwise_cons.1 hb
    have hxy : x = y := by
      rcases List.mem_cons.1 ((h x).1 (by simp)) with e | e
      · exact e
      · rcases List.mem_cons.1 ((h y).2 (by simp)) with e2 | e2
        · exact e2.symm
        · have h1 := hb'.1 x e
          have h2 := ha'.1 y e2
          omega
    subst hxy
    congr 1
    refine rising_ext ha'.2 hb'.2 fun z => ⟨fun hz => ?_, fun hz => ?_⟩
    · rcases List.mem_cons.1 ((h z).1 (List.mem_cons_of_mem _ hz)) with e | e
      · subst e; have := ha'.1 z hz; omega
      · exact e
    · rcases List.mem_cons.1 ((h z).2 (List.mem_cons_of_mem _ hz)) with e | e
      · subst e; have := hb'.1 z hz; omega
      · exact e
theorem rising_filter (n : Nat) (p : Nat → Bool) : Rising ((List.range n).filter p) := (List.pairwise_lt_range).sublist List.filter_sublist

open Classical in
/-- those of n points that meet something, rising -/
noncomputable def ptsOf (n : Nat) (P : Nat → Prop) : List Nat := (List.range n).filter fun x => decide (P x)
theorem mem_ptsOf {n : Nat} {P : Nat → Prop} {x : Nat} : x ∈ ptsOf n P ↔ x < n ∧ P x := by
  unfold ptsOf; rw [List.mem_filter, List.mem_range]; simp
theorem rising_ptsOf (n : Nat) (P : Nat → Prop) : Rising (ptsOf n P) := rising_filter _ _
theorem ptsOf_eq {n : Nat} {P : Nat → Prop} {l : List Nat} (hr : Rising l) (h : ∀ x, x ∈ l ↔ x < n ∧ P x) : l = ptsOf n P :=
  rising_ext hr (rising_ptsOf _ _) fun x => by rw [h, mem_ptsOf]
theorem ptsOf_congr {n : Nat} {P Q : Nat → Prop} (h : ∀ x, x < n → (P x ↔ Q x)) : ptsOf n P = ptsOf n Q :=
  ptsOf_eq (rising_ptsOf _ _) fun x => by rw [mem_ptsOf]; exact ⟨fun ⟨a, b⟩ => ⟨a, (h x a).1 b⟩, fun ⟨a, b⟩ => ⟨a, (h x a).2 b⟩⟩
theorem ptsOf_length_le (n : Nat) (P : Nat → Prop) : (ptsOf n P).length ≤ n := by
  unfold ptsOf; have := List.length_filter_le (fun x => @decide (P x) (Classical.propDecidable _)) (List.range n); simpa using this
/-- what is come to, rising -/
noncomputable def upList (W : List (List Nat)) (S : List Nat) : List Nat := ptsOf W.length (Up W (· ∈ S))
theorem mem_upList {W : List (List Nat)} {S : List Nat} (hg : GoodG W) (hs : ∀ x, x ∈ S → x < W.length) {x : Nat} : x ∈ upList W S ↔ Up W (· ∈ S) x := by
  unfold upList; rw [mem_ptsOf]; exact ⟨fun h => h.2, fun h => ⟨h.lt hg hs, h⟩⟩
/-- a list without repeats, rising once it is sorted -/
theorem rising_of_sorted {l : List Nat} (h : l.Pairwise (· ≤ ·)) (hn : l.Nodup) : Rising l := by
  rw [List.nodup_iff_pairwise_ne] at hn
  exact (h.and hn).imp fun ⟨a, b⟩ => by omega

/-- two places of a list exchanged -/
def swapL (l : List Nat) (i j : Nat) : List Nat := (l.set i (nth l j)).set j (nth l i)
theorem swapL_length (l : List Nat) (i j : Nat) : (swapL l i j).length = l.length := by unfold swapL; simp
theorem swapL_perm {l : List Nat} {i j : Nat} (hi : i < l.length) (hj : j < l.length) : (swapL l i j).Perm l := by
  rw [List.perm_iff_count]
  intro a
  unfold swapL
  rw [List.count_set (by simpa using hj), List.count_set hi]
  by_cases hij : i = j
  · subst hij
    rw [List.getElem_set_self, nth_eq hi]
    have : l[i] == a → 0 < l.count a := fun h => by rw [List.count_pos_iff]; rw [beq_iff_eq] at h; rw [← h]; exact List.getElem_mem hi
    by_cases h : (l[i] == a) = true
    · have := this h; simp only [h, if_true]; omega
    · simp only [h, Bool.false_eq_true, if_false]; omega
  · rw [List.getElem_set_ne hij, nth_eq hi, nth_eq hj]
    have h1 : l[i] == a → 0 < l.count a := fun h => by rw [List.count_pos_iff]; rw [beq_iff_eq] at h; rw [← h]; exact List.getElem_mem hi
    by_cases e1 : (l[i] == a) = true <;> by_cases e2 : (l[j] == a) = true <;> simp only [e1, e2, if_true, Bool.false_eq_true, if_false]
    · have := h1 e1; omega
    · have := h1 e1; omega
    · omega
    · omega
theorem nodup_perm_mem {a b : List Nat} (h : a.Perm b) (hn : b.Nodup) : a.Nodup := h.nodup_iff.2 hn
end Go.Proofs.Ytaibdlnolpbpiaa
