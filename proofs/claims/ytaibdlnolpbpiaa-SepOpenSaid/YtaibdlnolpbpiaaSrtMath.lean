/- Plain law: points put out one by one, each behind its parents: how many parents are still wanting, what is ready. No condition. -/
import Derived.Test.YtaibdlnolpbpiaaKids
namespace Go.Proofs.Ytaibdlnolpbpiaa

/-- how many parents of x are not out -/
def cntOut (G : List (List Nat)) (L : List Nat) (x : Nat) : Nat := ((nth G x).filter fun p => !L.contains p).length
theorem cntOut_zero {G : List (List Nat)} {L : List Nat} {x : Nat} : cntOut G L x = 0 ↔ ∀ p, p ∈ nth G x → p ∈ L := by
  unfold cntOut
  rw [List.length_eq_zero_iff, List.filter_eq_nil_iff]
  simp
theorem cntOut_nil (G : List (List Nat)) (x : Nat) : cntOut G [] x = (nth G x).length := by unfold cntOut; simp
theorem cntOut_le (G : List (List Nat)) (L : List Nat) (x : Nat) : cntOut G L x ≤ (nth G x).length := List.length_filter_le _ _
theorem filter_snoc : ∀ {l : List Nat} (L : List Nat) {p : Nat}, l.Nodup → p ∉ L → (l.filter fun y => !L.contains y).length = (l.filter fun y => !(L ++ [p]).contains y).length + if p ∈ l then 1 else 0
  | [], L, p, _, _ => by simp
  | y :: l, L, p, hn, hp => by
    have hn' := List.nodup_cons.1 hn
    have ih := filter_snoc L hn'.2 hp
    by_cases hy : y = p
    · subst hy
      rw [if_neg hn'.1] at ih
      rw [List.filter_cons_of_pos (by simpa using hp), List.filter_cons_of_neg (by simp), if_pos (by simp)]
      simp only [List.length_cons]; omega
    · have e : (p ∈ y :: l) ↔ p ∈ l := by rw [List.mem_cons]; exact ⟨fun h => h.resolve_left fun h => hy h.symm, .inr⟩
      have e2 : (!(L ++ [p]).contains y) = !L.contains y := by
        congr 1; rw [Bool.eq_iff_iff]; simp [hy]
      by_cases hL : (!L.contains y) = true
      · rw [List.filter_cons_of_pos (p := fun y => !L.contains y) hL, List.filter_cons_of_pos (p := fun y => !(L ++ [p]).contains y) (by rw [e2]; exact hL)]
        simp only [List.length_cons, e]; omega
      · rw [List.filter_cons_of_neg (p := fun y => !L.contains y) hL, List.filter_cons_of_neg (p := fun y => !(L ++ [p]).contains y) (by rw [e2]; exact hL)]
        simp only [e]; exact ih
theorem cntOut_snoc {G : List (List Nat)} {L : List Nat} {x p : Nat} (hn : (nth G x).Nodup) (hp : p ∉ L) : cntOut G L x = cntOut G (L ++ [p]) x + if p ∈ nth G x then 1 else 0 := filter_snoc L hn hp

/-- what is ready: the points that are not out, all of whose parents are -/
structure Ready (G : List (List Nat)) (L H : List Nat) (lf : Nat → Nat) : Prop where
  nodup : H.Nodup
  mem : ∀ x, x ∈ H ↔ x < G.length ∧ x ∉ L ∧ lf x = 0
/-- .. as far as the first q children of the last point -/
def lfAt (G : List (List Nat)) (L D : List Nat) (q : Nat) (x : Nat) : Nat := cntOut G L x + if x ∈ D.drop q then 1 else 0
theorem lfAt_zero {G : List (List Nat)} {L : List Nat} {p : Nat} (hp : p < G.length) (hn : ∀ i, i < G.length → (nth G i).Nodup) (hpl : p ∉ L) {x : Nat} (hx : x < G.length) : lfAt G (L ++ [p]) (nth (kids G) p) 0 x = cntOut G L x := by
  unfold lfAt
  rw [cntOut_snoc (hn x hx) hpl, List.drop_zero]
  congr 1
  have := mem_kids (G := G) (p := p) (c := x) hp
  by_cases h : p ∈ nth G x
  · rw [if_pos h, if_pos (this.2 ⟨hx, h⟩)]
  · rw [if_neg h, if_neg (fun h2 => h (this.1 h2).2)]
theorem lfAt_full {G : List (List Nat)} {L D : List Nat} {q : Nat} (h : D.length ≤ q) (x : Nat) : lfAt G L D q x = cntOut G L x := by
  unfold lfAt; rw [List.drop_of_length_le h]; simp
theorem drop_mem {D : List Nat} {q : Nat} (h : q < D.length) (x : Nat) : x ∈ D.drop q ↔ x = nth D q ∨ x ∈ D.drop (q + 1) := by
  rw [List.drop_eq_getElem_cons h, nth_eq h, List.mem_cons]
theorem drop_not {D : List Nat} {q : Nat} (h : q < D.length) (hn : D.Nodup) : nth D q ∉ D.drop (q + 1) := by
  have h1 : (D.drop q).Nodup := hn.sublist (List.drop_sublist _ _)
  rw [List.drop_eq_getElem_cons h] at h1
  rw [nth_eq h]; exact (List.nodup_cons.1 h1).1
theorem lfAt_self {G : List (List Nat)} {L D : List Nat} {q : Nat} (h : q < D.length) (hn : D.Nodup) : lfAt G L D q (nth D q) = lfAt G L D (q + 1) (nth D q) + 1 := by
  unfold lfAt; rw [if_pos ((drop_mem h _).2 (.inl rfl)), if_neg (drop_not h hn)]
theorem lfAt_other {G : List (List Nat)} {L D : List Nat} {q : Nat} (h : q < D.length) {x : Nat} (hx : x ≠ nth D q) : lfAt G L D q x = lfAt G L D (q + 1) x := by
  unfold lfAt
  have := drop_mem h x
  by_cases h2 : x ∈ D.drop (q + 1)
  · rw [if_pos h2, if_pos (this.2 (.inr h2))]
  · rw [if_neg h2, if_neg (fun h3 => (this.1 h3).elim hx h2)]
/-- a child that is ready now is put in -/
theorem Ready.push {G : List (List Nat)} {L D H H' : List Nat} {q : Nat} (h : Ready G L H (lfAt G L D q)) (hq : q < D.length) (hn : D.Nodup) (hlt : nth D q < G.length) (hnot : nth D q ∉ L) (h0 : lfAt G L D (q + 1) (nth D q) = 0) (hp : H'.Perm (nth D q :: H)) :
    Ready G L H' (lfAt G L D (q + 1)) := by
  have hs := lfAt_self (G := G) (L := L) hq hn
  have hnew : nth D q ∉ H := fun hm => by have := (h.mem _).1 hm; omega
  refine ⟨hp.nodup_iff.2 (List.nodup_cons.2 ⟨hnew, h.nodup⟩), fun x => ?_⟩
  rw [hp.mem_iff, List.mem_cons, h.mem]
  by_cases hx : x = nth D q
  · subst hx; exact ⟨fun _ => ⟨hlt, hnot, h0⟩, fun _ => .inl rfl⟩
  · rw [lfAt_other hq hx]; exact ⟨fun h => h.resolve_left hx, fun h => .inr h⟩
/-- a child that is not ready yet -/
theorem Ready.pass {G : List (List Nat)} {L D H : List Nat} {q : Nat} (h : Ready G L H (lfAt G L D q)) (hq : q < D.length) (hn : D.Nodup) (h0 : lfAt G L D (q + 1) (nth D q) ≠ 0) : Ready G L H (lfAt G L D (q + 1)) := by
  have hs := lfAt_self (G := G) (L := L) hq hn
  refine ⟨h.nodup, fun x => ?_⟩
  rw [h.mem]
  by_cases hx : x = nth D q
  · subst hx; rw [hs]; exact ⟨fun h => absurd h.2.2 (by omega), fun h => absurd h.2.2 h0⟩
  · rw [lfAt_other hq hx]
/-- a point is taken out of what is ready -/
theorem Ready.pop {G : List (List Nat)} {L H H' : List Nat} {p : Nat} (h : Ready G L H (cntOut G L)) (hk : Kahn G L) (hn : ∀ i, i < G.length → (nth G i).Nodup) (hp : H.Perm (p :: H')) :
    p < G.length ∧ p ∉ L ∧ (∀ q, q ∈ nth G p → q ∈ L) ∧ Kahn G (L ++ [p]) ∧ Ready G (L ++ [p]) H' (lfAt G (L ++ [p]) (nth (kids G) p) 0) ∧ ∀ c, c ∈ nth (kids G) p → c < G.length ∧ c ∉ L ++ [p] := by
  have hm : p ∈ H := hp.mem_iff.2 (by simp)
  obtain ⟨h1, h2, h3⟩ := (h.mem p).1 hm
  have h4 := cntOut_zero.1 h3
  have hnp := List.nodup_cons.1 (hp.nodup_iff.1 h.nodup)
  refine ⟨h1, h2, h4, hk.snoc h1 h2 h4, ⟨hnp.2, fun x => ?_⟩, fun c hc => ?_⟩
  · constructor
    · intro hx
      obtain ⟨g1, g2, g3⟩ := (h.mem x).1 (hp.mem_iff.2 (List.mem_cons_of_mem _ hx))
      refine ⟨g1, ?_, by rw [lfAt_zero h1 hn h2 g1]; exact g3⟩
      rw [List.mem_append, List.mem_singleton]
      rintro (hx2 | rfl)
      · exact g2 hx2
      · exact hnp.1 hx
    · rintro ⟨g1, g2, g3⟩
      rw [lfAt_zero h1 hn h2 g1] at g3
      rw [List.mem_append, List.mem_singleton] at g2
      have := hp.mem_iff.1 ((h.mem x).2 ⟨g1, fun hx => g2 (.inl hx), g3⟩)
      rcases List.mem_cons.1 this with rfl | this
      · exact absurd (.inr rfl) g2
      · exact this
  · obtain ⟨c1, c2⟩ := (mem_kids h1).1 hc
    refine ⟨c1, ?_⟩
    rw [List.mem_append, List.mem_singleton]
    rintro (hcl | rfl)
    · obtain ⟨j, hj, e⟩ := mem_nth hcl
      have := hk.behind j hj p (by rw [e]; exact c2)
      exact h2 (List.mem_of_mem_take this)
    · exact h2 (h4 c c2)
theorem Ready.start {G : List (List Nat)} {H : List Nat} (hn : H.Nodup) (hm : ∀ x, x ∈ H ↔ x < G.length ∧ (nth G x).length = 0) : Ready G [] H (cntOut G []) :=
  ⟨hn, fun x => by rw [hm, cntOut_nil]; simp⟩
theorem Ready.stuck {G : List (List Nat)} {L : List Nat} (h : Ready G L [] (cntOut G L)) {i : Nat} (hi : i < G.length) (hn : i ∉ L) : ∃ p, p ∈ nth G i ∧ p ∉ L := by
  apply Classical.byContradiction
  intro hex
  have : i ∈ ([] : List Nat) := (h.mem i).2 ⟨hi, hn, cntOut_zero.2 fun p hp => Classical.byContradiction fun hpl => hex ⟨p, hp, hpl⟩⟩
  cases this
end Go.Proofs.Ytaibdlnolpbpiaa
