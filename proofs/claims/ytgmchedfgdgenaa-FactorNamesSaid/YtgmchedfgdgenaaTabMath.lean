/- Tables in plain Lean: places of values, strides, assignments; no program in sight. No condition. -/
import Derived.Test.YtgmchedfgdgenaaSetAll
namespace Go.Proofs.Ytgmchedfgdgenaa

/-- the product of the sizes from a place on -/
def sufP (Z : List Int) (k : Nat) : Int := (Z.drop k).foldr (· * ·) 1
theorem sufP_end {Z : List Int} {k : Nat} (h : Z.length ≤ k) : sufP Z k = 1 := by unfold sufP; rw [List.drop_eq_nil_of_le h]; rfl
theorem sufP_step {Z : List Int} {k : Nat} (h : k < Z.length) : sufP Z k = nth Z k * sufP Z (k + 1) := by
  unfold sufP; rw [List.drop_eq_getElem_cons h, List.foldr_cons, nth_eq h]
theorem sufP_pos {Z : List Int} (hz : ∀ z, z ∈ Z → 1 ≤ z) (k : Nat) : 1 ≤ sufP Z k := by
  unfold sufP
  have : ∀ l : List Int, (∀ z, z ∈ l → 1 ≤ z) → 1 ≤ l.foldr (· * ·) 1 := by
    intro l
    induction l with
    | nil => intro _; exact Int.le_refl _
    | cons a l ih =>
      intro h
      have h1 := h a (by simp)
      have h2 := ih fun z hz' => h z (List.mem_cons_of_mem _ hz')
      rw [List.foldr_cons]
      have := Int.mul_le_mul h1 h2 (by omega) (by omega)
      simpa using this
  exact this _ fun z hz' => hz z (List.mem_of_mem_drop hz')
theorem sufP_mono {Z : List Int} (hz : ∀ z, z ∈ Z → 1 ≤ z) : ∀ k, sufP Z k ≤ sufP Z 0
  | 0 => Int.le_refl _
  | k + 1 => by
    refine Int.le_trans ?_ (sufP_mono hz k)
    rcases Nat.lt_or_ge k Z.length with h | h
    · rw [sufP_step h]
      have h1 := hz _ (nth_mem h)
      have h2 := sufP_pos hz (k + 1)
      have := Int.mul_le_mul_of_nonneg_right h1 (show 0 ≤ sufP Z (k + 1) by omega)
      simpa using this
    · rw [sufP_end h, sufP_end (by omega)]; exact Int.le_refl _
/-- the place of some values -/
def atH (Z d : List Int) : Int := (Z.zip d).foldl (fun a x => a * x.1 + x.2) 0
/-- the same, as a sum -/
def atS (Z d : List Int) : Int := ((List.range Z.length).map fun i => sufP Z (i + 1) * nth d i).sum
theorem sum_append_int (a b : List Int) : (a ++ b).sum = a.sum + b.sum := by
  induction a with
  | nil => simp
  | cons x l ih => simp [ih]; omega
theorem sum_range_succ' (n : Nat) (f : Nat → Int) : ((List.range (n + 1)).map f).sum = f 0 + ((List.range n).map fun i => f (i + 1)).sum := by
  rw [List.range_succ_eq_map, List.map_cons, List.sum_cons, List.map_map]; rfl
theorem atS_cons (z x : Int) (Z d : List Int) : atS (z :: Z) (x :: d) = sufP Z 0 * x + atS Z d := by
  unfold atS
  rw [List.length_cons, sum_range_succ']
  rfl
theorem foldl_at (Z : List Int) : ∀ (d : List Int) (a : Int), Z.length = d.length → (Z.zip d).foldl (fun a x => a * x.1 + x.2) a = a * sufP Z 0 + atS Z d := by
  induction Z with
  | nil => intro d a h; cases d with
    | nil => simp [sufP, atS]
    | cons => simp at h
  | cons z Z ih =>
    intro d a h
    cases d with
    | nil => simp at h
    | cons x d =>
      have e : sufP (z :: Z) 0 = z * sufP Z 0 := rfl
      rw [List.zip_cons_cons, List.foldl_cons, ih d _ (by simpa using h), atS_cons, e]
      rw [Int.add_mul, Int.mul_assoc, Int.mul_comm x (sufP Z 0), Int.add_assoc]
theorem atH_eq {Z d : List Int} (h : Z.length = d.length) : atH Z d = atS Z d := by unfold atH; rw [foldl_at Z d 0 h]; simp
theorem atS_range {Z : List Int} : ∀ {d : List Int}, Z.length = d.length → (∀ z, z ∈ Z → 1 ≤ z) → (∀ i, i < Z.length → 0 ≤ nth d i ∧ nth d i < nth Z i) → 0 ≤ atS Z d ∧ atS Z d < sufP Z 0 := by
  induction Z with
  | nil => intro d h _ _; cases d with
    | nil => simp [atS, sufP]
    | cons => simp at h
  | cons z Z ih =>
    intro d h hz hd
    cases d with
    | nil => simp at h
    | cons x d =>
      have h0 := hd 0 (by simp)
      have h1 := ih (d := d) (by simpa using h) (fun y hy => hz y (List.mem_cons_of_mem _ hy)) fun i hi => hd (i + 1) (by simpa using hi)
      have hp := sufP_pos (Z := Z) (fun y hy => hz y (List.mem_cons_of_mem _ hy)) 0
      have e : sufP (z :: Z) 0 = z * sufP Z 0 := rfl
      rw [atS_cons, e]
      have x0 : 0 ≤ x := h0.1
      have x1 : x + 1 ≤ z := h0.2
      have m1 := Int.mul_le_mul_of_nonneg_left x1 (show 0 ≤ sufP Z 0 by omega)
      rw [Int.mul_add, Int.mul_one, Int.mul_comm (sufP Z 0) z] at m1
      have m2 : 0 ≤ sufP Z 0 * x := Int.mul_nonneg (by omega) x0
      constructor <;> omega
/-- the value of a variable -/
def asg (U d : List Int) (v : Int) : Int := match U, d with
  | u :: U, x :: d => if u = v then x else asg U d v
  | _, _ => 0
theorem asg_map {U : List Int} : ∀ {d : List Int}, U.Nodup → U.length = d.length → U.map (asg U d) = d := by
  induction U with
  | nil => intro d _ h; cases d with
    | nil => rfl
    | cons => simp at h
  | cons u U ih =>
    intro d hn h
    cases d with
    | nil => simp at h
    | cons x d =>
      rw [List.nodup_cons] at hn
      rw [List.map_cons]
      have e1 : asg (u :: U) (x :: d) u = x := by simp [asg]
      have e2 : U.map (asg (u :: U) (x :: d)) = U.map (asg U d) := List.map_congr_left fun v hv => by
        have : ¬ u = v := fun h => hn.1 (h ▸ hv)
        simp [asg, this]
      rw [e1, e2, ih hn.2 (by simpa using h)]
/-- how far a table's cells are apart for a variable, of its variables from place m on -/
def strF (S Z : List Int) (m : Nat) (u : Int) : Int := match S.idxOf? u with
  | some i => if m ≤ i then sufP Z (i + 1) else 0
  | none => 0
/-- a sum over more, where all else is nothing -/
theorem sum_sub {S U : List Int} (h : S.Sublist U) (hn : U.Nodup) (g : Int → Int) (hg : ∀ u, u ∈ U → u ∉ S → g u = 0) : (U.map g).sum = (S.map g).sum := by
  induction h with
  | slnil => rfl
  | cons a h ih =>
    rw [List.nodup_cons] at hn
    rw [List.map_cons, List.sum_cons, ih hn.2 (fun u hu hs => hg u (List.mem_cons_of_mem _ hu) hs), hg a (by simp) (fun hs => hn.1 (h.subset hs)), Int.zero_add]
  | cons_cons a h ih =>
    rw [List.nodup_cons] at hn
    rw [List.map_cons, List.sum_cons, List.map_cons, List.sum_cons, ih hn.2 fun u hu hs => hg u (List.mem_cons_of_mem _ hu) fun h2 => by
      rcases List.mem_cons.1 h2 with h3 | h3
      · subst h3; exact hn.1 hu
      · exact hs h3]
theorem idxOf_nth {S : List Int} (hn : S.Nodup) {i : Nat} (hi : i < S.length) : S.idxOf? (nth S i) = some i := by
  rw [nth_eq hi, List.idxOf?, List.findIdx?_eq_some_iff_getElem]
  refine ⟨hi, by simp, fun j hj => ?_⟩
  simp only [beq_iff_eq]
  intro h
  have h1 := (List.getElem_inj hn).1 h
  omega
theorem idxOf_some {S : List Int} {u : Int} {i : Nat} (h : S.idxOf? u = some i) : i < S.length ∧ nth S i = u := by
  rw [List.idxOf?, List.findIdx?_eq_some_iff_getElem] at h
  obtain ⟨h1, h2, _⟩ := h
  exact ⟨h1, by rw [nth_eq h1]; simpa using h2⟩
theorem idxOf_none {S : List Int} {u : Int} : S.idxOf? u = none ↔ u ∉ S := by
  rw [List.idxOf?, List.findIdx?_eq_none_iff]
  constructor
  · intro h hu; have := h u hu; simp at this
  · intro h x hx; simp; rintro rfl; exact h hx
/-- the strides, of the table's variables from place m on -/
def stL (U S Z : List Int) (m : Nat) : List Int := U.map (strF S Z m)
theorem stL_length (U S Z : List Int) (m : Nat) : (stL U S Z m).length = U.length := by simp [stL]
theorem stL_end (U S Z : List Int) : stL U S Z S.length = List.replicate U.length 0 := by
  unfold stL
  rw [← List.map_const']
  refine List.map_congr_left fun u _ => ?_
  unfold strF
  rcases h : S.idxOf? u with _ | i
  · rfl
  · have := (idxOf_some h).1
    simp only [if_neg (show ¬ S.length ≤ i by omega)]
theorem stL_step {U S Z : List Int} (hS : S.Nodup) (hU : U.Nodup) {m p : Nat} (hm : m < S.length) (hp : p < U.length) (he : nth U p = nth S m) : (stL U S Z (m + 1)).set p (sufP Z (m + 1)) = stL U S Z m := by
  apply List.ext_getElem
  · simp [stL]
  · intro q h1 h2
    simp only [stL, List.length_map] at h2
    rw [List.getElem_set]
    by_cases hq : p = q
    · subst hq
      have : U[p] = nth S m := by rw [← he, nth_eq hp]
      simp only [stL, List.getElem_map, this, strF, idxOf_nth hS hm, if_true, Nat.le_refl]
    · rw [if_neg hq]
      simp only [stL, List.getElem_map, strF]
      rcases h : S.idxOf? U[q] with _ | i
      · rfl
      · obtain ⟨h3, h4⟩ := idxOf_some h
        have hne : i ≠ m := by
          rintro rfl
          rw [← he, nth_eq hp] at h4
          exact hq ((List.getElem_inj hU).1 h4)
        by_cases h5 : m ≤ i
        · simp only [if_pos h5, if_pos (show m + 1 ≤ i by omega)]
        · simp only [if_neg h5, if_neg (show ¬ m + 1 ≤ i by omega)]
/-- the first k of a sum of products -/
def placeF (s d : List Int) (k : Nat) : Int := ((List.range k).map fun i => nth s i * nth d i).sum
theorem placeF_succ (s d : List Int) (k : Nat) : placeF s d (k + 1) = placeF s d k + nth s k * nth d k := by unfold placeF; rw [List.range_succ, List.map_append, sum_append_int]; simp
theorem placeF_mono {s d : List Int} (h : ∀ i, 0 ≤ nth s i * nth d i) : ∀ {k n : Nat}, k ≤ n → placeF s d k ≤ placeF s d n := by
  intro k n hkn
  induction n with
  | zero => obtain rfl : k = 0 := by omega
            exact Int.le_refl _
  | succ n ih =>
    rcases Nat.lt_or_ge n k with h1 | h1
    · obtain rfl : k = n + 1 := by omega
      exact Int.le_refl _
    · have := ih h1; have := h n; rw [placeF_succ]; omega
theorem map_range_nth {α β : Type} [Inhabited α] (l : List α) (f : α → β) : (List.range l.length).map (fun i => f (nth l i)) = l.map f := by
  apply List.ext_getElem
  · simp
  · intro i h1 h2
    simp only [List.length_map] at h2
    simp [nth_eq h2]
/-- the sum of strides times values is the place of the table's own values -/
theorem place_at {U S Z : List Int} (hSU : S.Sublist U) (hU : U.Nodup) (hZ : Z.length = S.length) (f : Int → Int) : placeF (stL U S Z 0) (U.map f) U.length = atS Z (S.map f) := by
  have e1 : placeF (stL U S Z 0) (U.map f) U.length = (U.map fun u => strF S Z 0 u * f u).sum := by
    unfold placeF
    rw [← map_range_nth U (fun u => strF S Z 0 u * f u)]
    congr 1
    refine List.map_congr_left fun i hi => ?_
    rw [List.mem_range] at hi
    rw [stL, nth_map _ hi, nth_map _ hi]
  have hS : S.Nodup := hSU.nodup hU
  rw [e1, sum_sub hSU hU _ fun u _ hu => by rw [strF, idxOf_none.2 hu]; exact Int.zero_mul _]
  unfold atS
  rw [hZ, ← map_range_nth S (fun u => strF S Z 0 u * f u)]
  congr 1
  refine List.map_congr_left fun i hi => ?_
  rw [List.mem_range] at hi
  rw [nth_map _ hi, strF, idxOf_nth hS hi]
  simp
theorem strF_nonneg {S Z : List Int} (hz : ∀ z, z ∈ Z → 1 ≤ z) (m : Nat) (u : Int) : 0 ≤ strF S Z m u := by
  unfold strF
  rcases S.idxOf? u with _ | i
  · exact Int.le_refl _
  · simp only
    split
    · have := sufP_pos hz (i + 1); omega
    · exact Int.le_refl _
end Go.Proofs.Ytgmchedfgdgenaa
