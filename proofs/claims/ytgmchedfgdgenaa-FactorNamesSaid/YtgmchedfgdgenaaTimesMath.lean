/- A product of two tables in plain words. No condition. -/
import Derived.Test.YtgmchedfgdgenaaSizedI
import Derived.Test.YtgmchedfgdgenaaSetAll
import Derived.Test.YtgmchedfgdgenaaCheck
import Derived.Test.YtgmchedfgdgenaaPlace
namespace Go.Proofs.Ytgmchedfgdgenaa
open Go.RowKit

/-- the variables of both -/
def uniL (S1 S2 : List Int) : List Int := setOf cmpI (S1 ++ S2)
theorem mem_setOfI (z : Int) (xs : List Int) : z ∈ setOf cmpI xs ↔ z ∈ xs := by
  rw [mem_setOf cmpokI]
  constructor
  · rintro ⟨i, hi, he, _⟩
    exact List.mem_of_getElem? he
  · intro h
    have hex : ∃ i, i < xs.length ∧ xs[i]? = some z := by
      obtain ⟨i, hi, he⟩ := List.mem_iff_getElem.1 h
      exact ⟨i, hi, by rw [List.getElem?_eq_getElem hi, he]⟩
    have hmin : ∀ n i, i < n → i < xs.length → xs[i]? = some z → ∃ i, i < xs.length ∧ xs[i]? = some z ∧ ∀ j y, j < i → xs[j]? = some y → cmpI y z ≠ 0 := by
      intro n
      induction n with
      | zero => intro i h; omega
      | succ n ih =>
        intro i hin hi he
        by_cases hq : ∀ j y, j < i → xs[j]? = some y → cmpI y z ≠ 0
        · exact ⟨i, hi, he, hq⟩
        · obtain ⟨j, hj⟩ := Classical.not_forall.1 hq
          obtain ⟨y, hy⟩ := Classical.not_forall.1 hj
          have h1 : j < i := Classical.byContradiction fun h => hy fun h' => absurd h' h
          have h2 : xs[j]? = some y := Classical.byContradiction fun h => hy fun _ h' => absurd h' h
          have h3 : cmpI y z = 0 := Classical.byContradiction fun h => hy fun _ _ => h
          rw [cmpI_zero] at h3
          subst h3
          exact ih j (by omega) (by omega) h2
    obtain ⟨i, hi, he⟩ := hex
    exact hmin (i + 1) i (Nat.lt_succ_self i) hi he
theorem asc_uni (S1 S2 : List Int) : Asc cmpI (uniL S1 S2) := asc_setOf cmpokI _
theorem mem_uni {S1 S2 : List Int} {z : Int} : z ∈ uniL S1 S2 ↔ z ∈ S1 ∨ z ∈ S2 := by unfold uniL; rw [mem_setOfI, List.mem_append]
theorem uni_length_le (S1 S2 : List Int) : (uniL S1 S2).length ≤ S1.length + S2.length := by
  have := setOf_length_le (c := cmpI) (S1 ++ S2)
  rw [List.length_append] at this
  exact this
theorem setOf_asc {S : List Int} (h : Asc cmpI S) : setOf cmpI S = S := Asc.ext cmpokI (asc_setOf cmpokI S) h fun z => mem_setOfI z S
theorem chosen_uni {S1 S2 out : List Int} (h : Chosen cmpI true true true S1 S2 out) : out = uniL S1 S2 := by
  refine Asc.ext cmpokI h.asc (asc_uni S1 S2) fun z => ?_
  rw [h.mem, mem_uni]
  have hw : want cmpI true true S2 z = true := by unfold want; split <;> rfl
  rw [hw]
  constructor
  · rintro (⟨h1, _⟩ | ⟨h1, _, _⟩)
    · exact .inl h1
    · exact .inr h1
  · rintro (h1 | h1)
    · exact .inl ⟨h1, rfl⟩
    · rcases hq : isIn cmpI z S1 with _ | _
      · exact .inr ⟨h1, rfl, rfl⟩
      · obtain ⟨y, hy, h0⟩ := isIn_iff.1 hq
        rw [cmpI_zero] at h0
        subst h0
        exact .inl ⟨hy, rfl⟩
/-- a scope that rises from 0 on, sizes of 1 or more -/
structure TabOk (S Z : List Int) : Prop where
  asc : Asc cmpI S
  len : Z.length = S.length
  one : ∀ z, z ∈ Z → 1 ≤ z
  cnt : sufP Z 0 ≤ 2147483647
  zero : ∀ v, v ∈ S → 0 ≤ v
theorem okAt_at {S Z : List Int} {n j : Nat} (h : okAt S Z n = true) (hj : j < n) : 0 ≤ nth S j ∧ (j = 0 ∨ nth S (j - 1) < nth S j) ∧ 1 ≤ nth Z j := by
  unfold okAt at h
  have := List.all_eq_true.1 h j (List.mem_range.2 hj)
  simpa [and_assoc] using this
theorem checkC_ok {S Z : List Int} {m : Nat} (h : checkC S Z m = 0) : TabOk S Z ∧ sufP Z 0 = m := by
  unfold checkC at h
  split at h
  · cases h
  rename_i h1
  split at h
  · cases h
  rename_i h2
  have hok : okAt S Z S.length = true := by simpa using h2
  have hlen : Z.length = S.length := by have h3 : S.length = Z.length := Classical.byContradiction fun h => h1 h
                                        exact h3.symm
  have hone : ∀ z, z ∈ Z → 1 ≤ z := fun z hz => by
    obtain ⟨j, hj, rfl⟩ := mem_nth hz
    exact (okAt_at hok (by omega)).2.2
  rw [cntC_eq hone] at h
  by_cases hq : 2147483647 < sufP Z 0
  · rw [if_pos hq] at h
    simp at h
  · rw [if_neg hq] at h
    simp only [ne_eq, not_true_eq_false, if_false] at h
    have hm : sufP Z 0 = m := Classical.byContradiction fun hne => by rw [if_pos hne] at h; cases h
    have hstep : ∀ j, j + 1 < S.length → nth S j < nth S (j + 1) := fun j hj => by
      rcases (okAt_at hok hj).2.1 with h | h
      · omega
      · exact h
    have hlt : ∀ d i, i + d + 1 < S.length → nth S i < nth S (i + d + 1) := by
      intro d
      induction d with
      | zero => intro i hi; exact hstep i hi
      | succ d ih => intro i hi; exact Int.lt_trans (ih i (by omega)) (hstep (i + d + 1) hi)
    refine ⟨⟨?_, hlen, hone, by omega, fun v hv => ?_⟩, hm⟩
    · unfold Asc
      rw [List.pairwise_iff_getElem]
      intro i j hi hj hij
      have := hlt (j - i - 1) i (by omega)
      rw [show i + (j - i - 1) + 1 = j by omega, nth_eq hi, nth_eq hj] at this
      rw [cmpI_neg]; exact this
    · obtain ⟨j, hj, rfl⟩ := mem_nth hv
      exact (okAt_at hok hj).1
/-- what is wrong with a product, or 0 -/
def timesErr (S1 Z1 : List Int) (m1 : Nat) (S2 Z2 : List Int) (m2 : Nat) : Int :=
  if checkC S1 Z1 m1 ≠ 0 then checkC S1 Z1 m1 else if checkC S2 Z2 m2 ≠ 0 then checkC S2 Z2 m2 else if (uniL S1 S2).any (clash S1 Z1 S2 Z2) = true then 61 else if 2147483647 < sufP ((uniL S1 S2).map (sizeF S1 Z1 S2 Z2)) 0 then 4 else 0
/-- the sizes of a product -/
def uniZ (S1 Z1 S2 Z2 : List Int) : List Int := (uniL S1 S2).map (sizeF S1 Z1 S2 Z2)
theorem uniZ_one {S1 Z1 S2 Z2 : List Int} (h1 : TabOk S1 Z1) (h2 : TabOk S2 Z2) : ∀ z, z ∈ uniZ S1 Z1 S2 Z2 → 1 ≤ z := by
  intro z hz
  obtain ⟨u, hu, rfl⟩ := List.mem_map.1 hz
  unfold sizeF
  rcases hq : S1.idxOf? u with _ | i
  · simp only
    rcases hr : S2.idxOf? u with _ | j
    · exfalso
      rcases mem_uni.1 hu with h | h
      · exact idxOf_none.1 hq h
      · exact idxOf_none.1 hr h
    · have := idxOf_some hr
      exact h2.one _ (nth_mem (by have := h2.len; omega))
  · have := idxOf_some hq
    exact h1.one _ (nth_mem (by have := h1.len; omega))
theorem asc_sub {S U : List Int} (hS : Asc cmpI S) (hU : Asc cmpI U) (h : ∀ x, x ∈ S → x ∈ U) : S.Sublist U := by
  induction U generalizing S with
  | nil =>
    cases S with
    | nil => exact List.Sublist.refl _
    | cons a S => exact absurd (h a (by simp)) (by simp)
  | cons u U ih =>
    cases S with
    | nil => exact List.nil_sublist _
    | cons a S =>
      have hU2 := (List.pairwise_cons.1 hU)
      have hS2 := (List.pairwise_cons.1 hS)
      by_cases he : a = u
      · subst he
        refine List.Sublist.cons_cons _ (ih hS2.2 hU2.2 fun x hx => ?_)
        rcases List.mem_cons.1 (h x (List.mem_cons_of_mem _ hx)) with h1 | h1
        · subst h1
          have := hS2.1 _ hx
          rw [(cmpI_zero _ _).mpr rfl] at this
          omega
        · exact h1
      · refine List.Sublist.cons _ (ih hS hU2.2 fun x hx => ?_)
        rcases List.mem_cons.1 (h x hx) with h1 | h1
        · exfalso
          subst h1
          rcases List.mem_cons.1 hx with h2 | h2
          · exact he h2.symm
          · have h3 := hS2.1 _ h2
            have h4 : a ∈ U := (List.mem_cons.1 (h a (by simp))).resolve_left he
            have h5 := hU2.1 _ h4
            have h6 := cmpokI.lt_trans h3 h5
            rw [(cmpI_zero _ _).mpr rfl] at h6
            omega
        · exact h1
theorem nth_default {α : Type} [Inhabited α] {l : List α} {i : Nat} (h : l.length ≤ i) : nth l i = default := by simp [nth, List.getD, List.getElem?_eq_none h]
theorem asg_nth {U d : List Int} (hn : U.Nodup) (h : U.length = d.length) {p : Nat} (hp : p < U.length) : asg U d (nth U p) = nth d p := by
  have h1 := asg_map hn h
  have h2 : nth (U.map (asg U d)) p = nth d p := by rw [h1]
  rwa [nth_map _ hp] at h2
/-- where a table's cell stands, told by the digits of a larger scope -/
theorem idx_ok {U S Z : List Int} {F : Int → Int} (hU : Asc cmpI U) (T : TabOk S Z) (hSU : ∀ x, x ∈ S → x ∈ U) (hF : ∀ i, i < S.length → F (nth S i) = nth Z i) (hone : ∀ z, z ∈ U.map F → 1 ≤ z) (k : Nat) :
    placeF (stL U S Z 0) (dgL (U.map F) k) U.length = atS Z (S.map (asg U (dgL (U.map F) k))) ∧ 0 ≤ atS Z (S.map (asg U (dgL (U.map F) k))) ∧ atS Z (S.map (asg U (dgL (U.map F) k))) < sufP Z 0 ∧ ∀ i, 0 ≤ nth (stL U S Z 0) i * nth (dgL (U.map F) k) i := by
  have hn : U.Nodup := hU.imp fun {a b} hab e => by
    subst e
    rw [(cmpI_zero _ _).mpr rfl] at hab
    omega
  have hlen : U.length = (dgL (U.map F) k).length := by rw [dgL_length, List.length_map]
  have hsub := asc_sub T.asc hU hSU
  have hpl := place_at hsub hn T.len (asg U (dgL (U.map F) k))
  rw [asg_map hn hlen] at hpl
  have hr : ∀ i, i < Z.length → 0 ≤ nth (S.map (asg U (dgL (U.map F) k))) i ∧ nth (S.map (asg U (dgL (U.map F) k))) i < nth Z i := fun i hi => by
    have hi2 : i < S.length := by have := T.len; omega
    rw [nth_map _ hi2]
    obtain ⟨p, hp, he⟩ := mem_nth (hSU _ (nth_mem hi2))
    rw [← he, asg_nth hn hlen hp]
    have h1 := dgL_range hone k (i := p) (by rw [List.length_map]; exact hp)
    rw [nth_map _ hp, he, hF i hi2] at h1
    exact h1
  have hat := atS_range (Z := Z) (d := S.map (asg U (dgL (U.map F) k))) (by rw [List.length_map]; exact T.len) T.one hr
  refine ⟨hpl, hat.1, hat.2, fun i => ?_⟩
  rcases Nat.lt_or_ge i U.length with h | h
  · have h1 : 0 ≤ nth (stL U S Z 0) i := by rw [stL, nth_map _ h]; exact strF_nonneg T.one 0 _
    have h2 := (dgL_range hone k (i := i) (by rw [List.length_map]; exact h)).1
    exact Int.mul_nonneg h1 h2
  · rw [nth_default (by rw [stL_length]; exact h)]
    exact Int.le_of_eq (by show 0 = (0 : Int) * _; rw [Int.zero_mul])
theorem sizeF_1 {S1 Z1 S2 Z2 : List Int} (h1 : TabOk S1 Z1) {i : Nat} (hi : i < S1.length) : sizeF S1 Z1 S2 Z2 (nth S1 i) = nth Z1 i := by
  unfold sizeF
  rw [idxOf_nth (asc_nodup h1.asc) hi]
theorem sizeF_2 {S1 Z1 S2 Z2 : List Int} (h2 : TabOk S2 Z2) (hno : (uniL S1 S2).any (clash S1 Z1 S2 Z2) = false) {i : Nat} (hi : i < S2.length) : sizeF S1 Z1 S2 Z2 (nth S2 i) = nth Z2 i := by
  have hm : nth S2 i ∈ uniL S1 S2 := mem_uni.2 (.inr (nth_mem hi))
  have hc := List.any_eq_false.1 hno _ hm
  unfold sizeF
  unfold clash at hc
  rw [idxOf_nth (asc_nodup h2.asc) hi] at hc ⊢
  rcases h : S1.idxOf? (nth S2 i) with _ | j
  · rfl
  · rw [h] at hc
    simpa using hc
theorem wpList_mk0 {P : Program} (w : World) {α : Type} {t e : TypeId} {z : Value} {bytes : Nat} (E : EI P t e z bytes) (enc : α → Value) {ops : Array Oper} {rest : List Oper} {o : Oper} {a : Act} {Q : Exit → Act → World → Prop} (hgd : o.guard = none) (l c : Operand)
    (ho : o.op = Op.makeSlice t l c) (n : Nat) (hl : a.eval l = .int .i64 0) (hc : a.eval c = .int .i64 (n : Int)) (hb : bytes * n ≤ 281474976710656)
    (h : ∀ w', OwnR enc w' w.heap.size e (some ⟨w.heap.size, 0, none⟩) 0 n [] → Below w.heap.size w w' → wpList P ops Q rest (a.put o.dst (.slice (some ⟨w.heap.size, 0, none⟩) 0 n)) w') : wpList P ops Q (o :: rest) a w := by
  obtain ⟨⟨i, e1, e2, e3, e4, e5⟩, _, hp⟩ := E
  have hn : 1 * n ≤ bytes * n := Nat.mul_le_mul_right _ hp
  exact wpList_make_own w hgd l c t ho w.heap.size e i z 1 e1 e2 e3 e4 .i64 .i64 _ n hl hc rfl (by rw [e5]; exact hb) (by unfold maxLen; omega) (Nat.le_refl _) fun w' h1 h2 => h w' h1 ⟨h2.os, h2.tape, h2.output, h2.size, fun b hb => h2.block b hb (by simp)⟩
end Go.Proofs.Ytgmchedfgdgenaa
