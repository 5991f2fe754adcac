/- Joined by program out of: TabMath, Held, Mem. What each says stands at its own head. -/
import Derived.Test.YtgmchedfgdgenaaSetAll
import Derived.Test.YtgmchedfgdgenaaLaws
import Derived.Outline
import Derived.Laws.OwnMore
/- Tables in plain Lean: places of values, strides, assignments; no program in sight. No condition. -/
namespace Go.Proofs.Ytgmchedfgdgenaa

/-- the product of the sizes from a place on -/
def sufP (Z : List Int) (k : Nat) : Int := (Z.drop k).foldr (· * ·) 1
theorem sufP_end {Z : List Int} {k : Nat} (h : Z.length ≤ k) : sufP Z k = 1 := by unfold sufP; rw [List.drop_eq_nil_of_le h]; rfl
theorem sufP_step {Z : List Int} {k : Nat} (h : k < Z.length) : sufP Z k = nth Z k * sufP Z (k + 1) := by
  unfold sufP; rw [List.drop_eq_getElem_cons h, List.foldr_cons, nth_eq h]
theorem sufP_pos {Z : List Int} (hz : ∀ z, z ∈ Z → 1 ≤ z) (k : Nat) : 1 ≤ sufP Z k := by
  unfold sufP
  have : ∀ l : List Int, (∀ z, z ∈ l → 1 ≤ z) → 1 ≤ l.foldr (· * ·) 1 := by
    intro l
    induction l with
    | nil => intro _; exact Int.le_refl _
    | cons a l ih =>
      intro h
      have h1 := h a (by simp)
      have h2 := ih fun z hz' => h z (List.mem_cons_of_mem _ hz')
      rw [List.foldr_cons]
      have := Int.mul_le_mul h1 h2 (by omega) (by omega)
      simpa using this
  exact this _ fun z hz' => hz z (List.mem_of_mem_drop hz')
theorem sufP_mono {Z : List Int} (hz : ∀ z, z ∈ Z → 1 ≤ z) : ∀ k, sufP Z k ≤ sufP Z 0
  | 0 => Int.le_refl _
  | k + 1 => by
    refine Int.le_trans ?_ (sufP_mono hz k)
    rcases Nat.lt_or_ge k Z.length with h | h
    · rw [sufP_step h]
      have h1 := hz _ (nth_mem h)
      have h2 := sufP_pos hz (k + 1)
      have := Int.mul_le_mul_of_nonneg_right h1 (show 0 ≤ sufP Z (k + 1) by omega)
      simpa using this
    · rw [sufP_end h, sufP_end (by omega)]; exact Int.le_refl _
/-- the place of some values -/
def atH (Z d : List Int) : Int := (Z.zip d).foldl (fun a x => a * x.1 + x.2) 0
/-- the same, as a sum -/
def atS (Z d : List Int) : Int := ((List.range Z.length).map fun i => sufP Z (i + 1) * nth d i).sum
theorem sum_append_int (a b : List Int) : (a ++ b).sum = a.sum + b.sum := by
  induction a with
  | nil => simp
  | cons x l ih => simp [ih]; omega
theorem sum_range_succ' (n : Nat) (f : Nat → Int) : ((List.range (n + 1)).map f).sum = f 0 + ((List.range n).map fun i => f (i + 1)).sum := by
  rw [List.range_succ_eq_map, List.map_cons, List.sum_cons, List.map_map]; rfl
theorem atS_cons (z x : Int) (Z d : List Int) : atS (z :: Z) (x :: d) = sufP Z 0 * x + atS Z d := by
  unfold atS
  rw [List.length_cons, sum_range_succ']
  rfl
theorem foldl_at (Z : List Int) : ∀ (d : List Int) (a : Int), Z.length = d.length → (Z.zip d).foldl (fun a x => a * x.1 + x.2) a = a * sufP Z 0 + atS Z d := by
  induction Z with
  | nil => intro d a h; cases d with
    | nil => simp [sufP, atS]
    | cons => simp at h
  | cons z Z ih =>
    intro d a h
    cases d with
    | nil => simp at h
    | cons x d =>
      have e : sufP (z :: Z) 0 = z * sufP Z 0 := rfl
      rw [List.zip_cons_cons, List.foldl_cons, ih d _ (by simpa using h), atS_cons, e]
      rw [Int.add_mul, Int.mul_assoc, Int.mul_comm x (sufP Z 0), Int.add_assoc]
theorem atH_eq {Z d : List Int} (h : Z.length = d.length) : atH Z d = atS Z d := by unfold atH; rw [foldl_at Z d 0 h]; simp
theorem atS_range {Z : List Int} : ∀ {d : List Int}, Z.length = d.length → (∀ z, z ∈ Z → 1 ≤ z) → (∀ i, i < Z.length → 0 ≤ nth d i ∧ nth d i < nth Z i) → 0 ≤ atS Z d ∧ atS Z d < sufP Z 0 := by
  induction Z with
  | nil => intro d h _ _; cases d with
    | nil => simp [atS, sufP]
    | cons => simp at h
  | cons z Z ih =>
    intro d h hz hd
    cases d with
    | nil => simp at h
    | cons x d =>
      have h0 := hd 0 (by simp)
      have h1 := ih (d := d) (by simpa using h) (fun y hy => hz y (List.mem_cons_of_mem _ hy)) fun i hi => hd (i + 1) (by simpa using hi)
      have hp := sufP_pos (Z := Z) (fun y hy => hz y (List.mem_cons_of_mem _ hy)) 0
      have e : sufP (z :: Z) 0 = z * sufP Z 0 := rfl
      rw [atS_cons, e]
      have x0 : 0 ≤ x := h0.1
      have x1 : x + 1 ≤ z := h0.2
      have m1 := Int.mul_le_mul_of_nonneg_left x1 (show 0 ≤ sufP Z 0 by omega)
      rw [Int.mul_add, Int.mul_one, Int.mul_comm (sufP Z 0) z] at m1
      have m2 : 0 ≤ sufP Z 0 * x := Int.mul_nonneg (by omega) x0
      constructor <;> omega
/-- the value of a variable -/
def asg (U d : List Int) (v : Int) : Int := match U, d with
  | u :: U, x :: d => if u = v then x else asg U d v
  | _, _ => 0
theorem asg_map {U : List Int} : ∀ {d : List Int}, U.Nodup → U.length = d.length → U.map (asg U d) = d := by
  induction U with
  | nil => intro d _ h; cases d with
    | nil => rfl
    | cons => simp at h
  | cons u U ih =>
    intro d hn h
    cases d with
    | nil => simp at h
    | cons x d =>
      rw [List.nodup_cons] at hn
      rw [List.map_cons]
      have e1 : asg (u :: U) (x :: d) u = x := by simp [asg]
      have e2 : U.map (asg (u :: U) (x :: d)) = U.map (asg U d) := List.map_congr_left fun v hv => by
        have : ¬ u = v := fun h => hn.1 (h ▸ hv)
        simp [asg, this]
      rw [e1, e2, ih hn.2 (by simpa using h)]
/-- how far a table's cells are apart for a variable, of its variables from place m on -/
def strF (S Z : List Int) (m : Nat) (u : Int) : Int := match S.idxOf? u with
  | some i => if m ≤ i then sufP Z (i + 1) else 0
  | none => 0
/-- a sum over more, where all else is nothing -/
theorem sum_sub {S U : List Int} (h : S.Sublist U) (hn : U.Nodup) (g : Int → Int) (hg : ∀ u, u ∈ U → u ∉ S → g u = 0) : (U.map g).sum = (S.map g).sum := by
  induction h with
  | slnil => rfl
  | cons a h ih =>
    rw [List.nodup_cons] at hn
    rw [List.map_cons, List.sum_cons, ih hn.2 (fun u hu hs => hg u (List.mem_cons_of_mem _ hu) hs), hg a (by simp) (fun hs => hn.1 (h.subset hs)), Int.zero_add]
  | cons_cons a h ih =>
    rw [List.nodup_cons] at hn
    rw [List.map_cons, List.sum_cons, List.map_cons, List.sum_cons, ih hn.2 fun u hu hs => hg u (List.mem_cons_of_mem _ hu) fun h2 => by
      rcases List.mem_cons.1 h2 with h3 | h3
      · subst h3; exact hn.1 hu
      · exact hs h3]
theorem idxOf_nth {S : List Int} (hn : S.Nodup) {i : Nat} (hi : i < S.length) : S.idxOf? (nth S i) = some i := by
  rw [nth_eq hi, List.idxOf?, List.findIdx?_eq_some_iff_getElem]
  refine ⟨hi, by simp, fun j hj => ?_⟩
  simp only [beq_iff_eq]
  intro h
  have h1 := (List.getElem_inj hn).1 h
  omega
theorem idxOf_some {S : List Int} {u : Int} {i : Nat} (h : S.idxOf? u = some i) : i < S.length ∧ nth S i = u := by
  rw [List.idxOf?, List.findIdx?_eq_some_iff_getElem] at h
  obtain ⟨h1, h2, _⟩ := h
  exact ⟨h1, by rw [nth_eq h1]; simpa using h2⟩
theorem idxOf_none {S : List Int} {u : Int} : S.idxOf? u = none ↔ u ∉ S := by
  rw [List.idxOf?, List.findIdx?_eq_none_iff]
  constructor
  · intro h hu; have := h u hu; simp at this
  · intro h x hx; simp; rintro rfl; exact h hx
/-- the strides, of the table's variables from place m on -/
def stL (U S Z : List Int) (m : Nat) : List Int := U.map (strF S Z m)
theorem stL_length (U S Z : List Int) (m : Nat) : (stL U S Z m).length = U.length := by simp [stL]
theorem stL_end (U S Z : List Int) : stL U S Z S.length = List.replicate U.length 0 := by
  unfold stL
  rw [← List.map_const']
  refine List.map_congr_left fun u _ => ?_
  unfold strF
  rcases h : S.idxOf? u with _ | i
  · rfl
  · have := (idxOf_some h).1
    simp only [if_neg (show ¬ S.length ≤ i by omega)]
theorem stL_step {U S Z : List Int} (hS : S.Nodup) (hU : U.Nodup) {m p : Nat} (hm : m < S.length) (hp : p < U.length) (he : nth U p = nth S m) : (stL U S Z (m + 1)).set p (sufP Z (m + 1)) = stL U S Z m := by
  apply List.ext_getElem
  · simp [stL]
  · intro q h1 h2
    simp only [stL, List.length_map] at h2
    rw [List.getElem_set]
    by_cases hq : p = q
    · subst hq
      have : U[p] = nth S m := by rw [← he, nth_eq hp]
      simp only [stL, List.getElem_map, this, strF, idxOf_nth hS hm, if_true, Nat.le_refl]
    · rw [if_neg hq]
      simp only [stL, List.getElem_map, strF]
      rcases h : S.idxOf? U[q] with _ | i
      · rfl
      · obtain ⟨h3, h4⟩ := idxOf_some h
        have hne : i ≠ m := by
          rintro rfl
          rw [← he, nth_eq hp] at h4
          exact hq ((List.getElem_inj hU).1 h4)
        by_cases h5 : m ≤ i
        · simp only [if_pos h5, if_pos (show m + 1 ≤ i by omega)]
        · simp only [if_neg h5, if_neg (show ¬ m + 1 ≤ i by omega)]
/-- the first k of a sum of products -/
def placeF (s d : List Int) (k : Nat) : Int := ((List.range k).map fun i => nth s i * nth d i).sum
theorem placeF_succ (s d : List Int) (k : Nat) : placeF s d (k + 1) = placeF s d k + nth s k * nth d k := by unfold placeF; rw [List.range_succ, List.map_append, sum_append_int]; simp
theorem placeF_mono {s d : List Int} (h : ∀ i, 0 ≤ nth s i * nth d i) : ∀ {k n : Nat}, k ≤ n → placeF s d k ≤ placeF s d n := by
  intro k n hkn
  induction n with
  | zero => obtain rfl : k = 0 := by omega
            exact Int.le_refl _
  | succ n ih =>
    rcases Nat.lt_or_ge n k with h1 | h1
    · obtain rfl : k = n + 1 := by omega
      exact Int.le_refl _
    · have := ih h1; have := h n; rw [placeF_succ]; omega
theorem map_range_nth {α β : Type} [Inhabited α] (l : List α) (f : α → β) : (List.range l.length).map (fun i => f (nth l i)) = l.map f := by
  apply List.ext_getElem
  · simp
  · intro i h1 h2
    simp only [List.length_map] at h2
    simp [nth_eq h2]
/-- the sum of strides times values is the place of the table's own values -/
theorem place_at {U S Z : List Int} (hSU : S.Sublist U) (hU : U.Nodup) (hZ : Z.length = S.length) (f : Int → Int) : placeF (stL U S Z 0) (U.map f) U.length = atS Z (S.map f) := by
  have e1 : placeF (stL U S Z 0) (U.map f) U.length = (U.map fun u => strF S Z 0 u * f u).sum := by
    unfold placeF
    rw [← map_range_nth U (fun u => strF S Z 0 u * f u)]
    congr 1
    refine List.map_congr_left fun i hi => ?_
    rw [List.mem_range] at hi
    rw [stL, nth_map _ hi, nth_map _ hi]
  have hS : S.Nodup := hSU.nodup hU
  rw [e1, sum_sub hSU hU _ fun u _ hu => by rw [strF, idxOf_none.2 hu]; exact Int.zero_mul _]
  unfold atS
  rw [hZ, ← map_range_nth S (fun u => strF S Z 0 u * f u)]
  congr 1
  refine List.map_congr_left fun i hi => ?_
  rw [List.mem_range] at hi
  rw [nth_map _ hi, strF, idxOf_nth hS hi]
  simp
theorem strF_nonneg {S Z : List Int} (hz : ∀ z, z ∈ Z → 1 ≤ z) (m : Nat) (u : Int) : 0 ≤ strF S Z m u := by
  unfold strF
  rcases S.idxOf? u with _ | i
  · exact Int.le_refl _
  · simp only
    split
    · have := sufP_pos hz (i + 1); omega
    · exact Int.le_refl _
end Go.Proofs.Ytgmchedfgdgenaa
/- What stays while the world only grows above: one word for many facts. No condition. -/
namespace Go.Proofs.Ytgmchedfgdgenaa
open Go.RowKit

/-- what stays when the world grows above all that there is -/
class Stable (P : World → Prop) : Prop where
  below : ∀ {w w' : World}, Below w.heap.size w w' → P w → P w'

section
variable {P Q : World → Prop}
instance (p : Prop) : Stable (fun _ => p) := ⟨fun _ h => h⟩
instance [Stable P] [Stable Q] : Stable (fun w => P w ∧ Q w) := ⟨fun hb h => ⟨Stable.below hb h.1, Stable.below hb h.2⟩⟩
instance {α : Type} {P : α → World → Prop} [∀ x, Stable (P x)] : Stable (fun w => ∀ x, P x w) := ⟨fun hb h x => Stable.below hb (h x)⟩
instance {α : Type} {P : α → World → Prop} [∀ x, Stable (P x)] : Stable (fun w => ∃ x, P x w) := ⟨fun hb h => h.imp fun _ hx => Stable.below hb hx⟩
instance {p : Prop} [Stable P] : Stable (fun w => p → P w) := ⟨fun hb h hp => Stable.below hb (h hp)⟩
instance {α : Type} [Inhabited α] {enc : α → Value} {A : Option Addr} {n : Nat} {xs : List α} : Stable (fun w => Sl enc w A n xs) := ⟨fun hb h => h.below (Nat.le_refl _) hb⟩
instance {g : Nat} {e : TypeId} {cs : List Value} : Stable (fun w => RowC w g e cs) := ⟨fun hb h => h.below' hb⟩
instance {α : Type} {enc : α → Value} {base : Nat} {e : TypeId} {A : Option Addr} {n c : Nat} {xs : List α} : Stable (fun w => OwnR enc w base e A n c xs) := ⟨fun hb h => h.below (Nat.le_refl _) hb⟩
instance {α : Type} {enc : α → Value} {g : Nat} {e : TypeId} {xs : List α} {rest : List Value} : Stable (fun w => RowAt enc w g e xs rest) := ⟨fun hb h => h.below hb h.lt⟩
instance {B : Nat} : Stable (fun w => B ≤ w.heap.size) := ⟨fun hb h => Nat.le_trans h hb.size⟩
end

/-- the world w has come out of w0 by growing above, and P holds there -/
structure Held (w0 : World) (P : World → Prop) (w : World) : Prop where
  bel : Below w0.heap.size w0 w
  has : P w

section
variable {w0 w w' : World} {P Q : World → Prop}
theorem Held.start (w0 : World) (h : P w0) : Held w0 P w0 := ⟨Below.refl _ _, h⟩
theorem Held.init (w0 : World) : Held w0 (fun _ => True) w0 := ⟨Below.refl _ _, trivial⟩
theorem Held.step [Stable P] (h : Held w0 P w) (hb : Below w.heap.size w w') : Held w0 P w' := ⟨h.bel.trans (hb.mono h.bel.size), Stable.below hb h.has⟩
theorem Held.alloc [Stable P] (h : Held w0 P w) (o : Obj) : Held w0 P (w.alloc o) := h.step ((Below.refl _ _).alloc (Nat.le_refl _) o)
theorem Held.drewN [Stable P] (h : Held w0 P w) (k : Nat) : Held w0 P (w.drewN k) := h.step (below_refl_drewN _ _ _)
theorem Held.drew [Stable P] (h : Held w0 P w) : Held w0 P w.drew := h.drewN 1
theorem Held.and (h : Held w0 P w) (hq : Q w) : Held w0 (fun w => Q w ∧ P w) w := ⟨h.bel, hq, h.has⟩
theorem Held.sl [Stable P] {α : Type} [Inhabited α] {enc : α → Value} {A : Option Addr} {n : Nat} {xs : List α} (h : Held w0 P w) (hq : Sl enc w A n xs) : Held w0 (fun w => Sl enc w A n xs ∧ P w) w := ⟨h.bel, hq, h.has⟩
theorem Held.own [Stable P] {α : Type} {enc : α → Value} {base : Nat} {e : TypeId} {A : Option Addr} {n c : Nat} {xs : List α} (h : Held w0 P w) (hq : OwnR enc w base e A n c xs) : Held w0 (fun w => OwnR enc w base e A n c xs ∧ P w) w := ⟨h.bel, hq, h.has⟩
theorem Held.row [Stable P] {g : Nat} {e : TypeId} {cs : List Value} (h : Held w0 P w) (hq : RowC w g e cs) : Held w0 (fun w => RowC w g e cs ∧ P w) w := ⟨h.bel, hq, h.has⟩
theorem Held.ge [Stable P] {B : Nat} (h : Held w0 P w) (hq : B ≤ w.heap.size) : Held w0 (fun w => B ≤ w.heap.size ∧ P w) w := ⟨h.bel, hq, h.has⟩
theorem Held.imp (h : Held w0 P w) (hq : P w → Q w) : Held w0 Q w := ⟨h.bel, hq h.has⟩
/-- a new block, known whole -/
theorem Held.new [Stable P] (h : Held w0 P w) (e : TypeId) (cs : List Value) : Held w0 (fun w' => RowC w' w.heap.size e cs ∧ P w') (w.alloc (.cells cs.toArray e)) := (h.alloc _).and (RowC.new w e cs)
section
variable {A B C D E : World → Prop}
theorem Held.drop0 (h : Held w0 (fun w => A w ∧ Q w) w) : Held w0 (fun w => Q w) w := ⟨h.bel, h.has.2⟩
theorem Held.drop1 (h : Held w0 (fun w => A w ∧ B w ∧ Q w) w) : Held w0 (fun w => A w ∧ Q w) w := ⟨h.bel, h.has.1, h.has.2.2⟩
theorem Held.drop2 (h : Held w0 (fun w => A w ∧ B w ∧ C w ∧ Q w) w) : Held w0 (fun w => A w ∧ B w ∧ Q w) w := ⟨h.bel, h.has.1, h.has.2.1, h.has.2.2.2⟩
theorem Held.drop3 (h : Held w0 (fun w => A w ∧ B w ∧ C w ∧ D w ∧ Q w) w) : Held w0 (fun w => A w ∧ B w ∧ C w ∧ Q w) w := ⟨h.bel, h.has.1, h.has.2.1, h.has.2.2.1, h.has.2.2.2.2⟩
theorem Held.drop4 (h : Held w0 (fun w => A w ∧ B w ∧ C w ∧ D w ∧ E w ∧ Q w) w) : Held w0 (fun w => A w ∧ B w ∧ C w ∧ D w ∧ Q w) w := ⟨h.bel, h.has.1, h.has.2.1, h.has.2.2.1, h.has.2.2.2.1, h.has.2.2.2.2.2⟩
end
theorem Held.size (h : Held w0 P w) : w0.heap.size ≤ w.heap.size := h.bel.size
end
end Go.Proofs.Ytgmchedfgdgenaa
/- Memory of the call's own: make and append with an element type's facts in one word; what turns between two worlds. Conditions: lengths within Go's bound. -/
namespace Go.Proofs.Ytgmchedfgdgenaa
open Go.RowKit

/-- a slice type's facts: its element type, its zero value, its bytes -/
structure EI (P : Program) (t e : TypeId) (z : Value) (bytes : Nat) : Prop where
  ex : ∃ i : TypeInfo, P.underlying t = some (.slice e) ∧ P.info? e = some i ∧ i.zero = some z ∧ i.size = 1 ∧ i.bytes = bytes
  zs : z.cells = #[z]
  pos : 1 ≤ bytes
theorem EI.mk' {P : Program} {t e : TypeId} {z : Value} {bytes : Nat} (h1 : P.underlying t = some (.slice e)) (h2 : (P.info? e).map (fun i => (i.zero, i.size, i.bytes)) = some (some z, 1, bytes)) (h3 : z.cells = #[z]) (h4 : 1 ≤ bytes) : EI P t e z bytes := by
  obtain ⟨i0, hi, hz0, hz1, hz2⟩ := info_parts h2
  exact ⟨⟨i0, h1, hi, hz0, hz1, hz2⟩, h3, h4⟩

theorem RowAt.setCellFar {α : Type} {enc : α → Value} {w : World} {g : Nat} {e : TypeId} {xs : List α} {rest : List Value} (h : RowAt enc w g e xs rest) {p : Addr} (hp : g ≠ p.block) (u : Value) : RowAt enc (w.setCell p u) g e xs rest := h.far hp u
theorem OwnR.at_row {α : Type} {enc : α → Value} {w : World} {base : Nat} {e : TypeId} {A : Option Addr} {n c : Nat} {xs : List α} (h : OwnR enc w base e A n c xs) : A = none ∨ ∃ g, A = some ⟨g, 0, none⟩ ∧ base ≤ g ∧ g < w.heap.size := by
  rcases h.2 with ⟨hv, _⟩ | ⟨g, cap, cur, hv, hb, hg, _⟩
  · injection hv with e1; exact .inl e1
  · injection hv with e1; exact .inr ⟨g, e1, hb, (Array.getElem?_eq_some_iff.1 hg).1⟩
theorem OwnR.setFar {α : Type} {enc : α → Value} {w : World} {base : Nat} {e : TypeId} {A : Option Addr} {n c : Nat} {xs : List α} (h : OwnR enc w base e A n c xs) {p : Addr} (hp : ∀ g, A = some ⟨g, 0, none⟩ → g ≠ p.block) (u : Value) : OwnR enc (w.setCell p u) base e A n c xs := by
  refine h.grown (row := some p.block) ⟨rfl, rfl, rfl, by simp [World.setCell], fun k _ hne => Below.heap_setCell _ _ _ _ (by rintro rfl; exact hne rfl)⟩ fun g e1 e2 => ?_
  injection e2 with e2
  exact hp g e1 e2.symm

section
variable {P : Program} (w : World)
theorem wpList_app {α : Type} [Inhabited α] {t e : TypeId} {z : Value} {bytes : Nat} (E : EI P t e z bytes) (enc : α → Value) (h1 : ∀ x, (enc x).oneCell' = true) {ops : Array Oper} {rest : List Oper} {o : Oper} {a : Act} {Q : Exit → Act → World → Prop} (hgd : o.guard = none) (s x : Operand)
    (ho : o.op = .call { callee := .builtin .append, args := #[s, x], argTypes := #[t, t] }) (base : Nat) (A : Option Addr) (n c : Nat) (xs : List α) (hs : a.eval s = .slice A n c) (hown : OwnR enc w base e A n c xs)
    (B : Option Addr) (m d : Nat) (ys : List α) (hx : a.eval x = .slice B m d) (hy : Sl enc w B m ys) (hbytes : (n + m) * bytes ≤ 140737488355328) (hbase : base ≤ w.heap.size)
    (h : ∀ A' c' w', OwnR enc w' base e A' (n + m) c' (xs ++ ys) → w.grownBy w' (Value.slice A n c).ownBlock → Below base w w' →
      ((Value.slice A' (n + m) c').ownBlock = (Value.slice A n c).ownBlock ∨ (Value.slice A' (n + m) c').ownBlock = some w.heap.size) → wpList P ops Q rest (a.put o.dst (.slice A' (n + m) c')) w') : wpList P ops Q (o :: rest) a w := by
  obtain ⟨⟨i, e1, e2, e3, e4, e5⟩, hz, hp⟩ := E
  refine wpList_append_sl w enc h1 hgd s x t ho base e i z bytes e1 e2 e3 e4 e5 (by rw [hz]; rfl) A n c xs hs hown B m d ys hx hy ?_ hbytes hbase h
  have : (n + m) * 1 ≤ (n + m) * bytes := Nat.mul_le_mul_left _ hp
  unfold maxLen; omega
theorem wpList_mk {α : Type} [Inhabited α] {t e : TypeId} {z : Value} {bytes : Nat} (E : EI P t e z bytes) (enc : α → Value) (x0 : α) (hx0 : enc x0 = z) {ops : Array Oper} {rest : List Oper} {o : Oper} {a : Act} {Q : Exit → Act → World → Prop} (hgd : o.guard = none) (l c : Operand)
    (ho : o.op = Op.makeSlice t l c) (n : Nat) (hl : a.eval l = .int .i64 (n : Int)) (hc : a.eval c = .int .i64 (n : Int)) (hb : bytes * n ≤ 281474976710656)
    (h : ∀ w', RowAt enc w' w.heap.size e (List.replicate n x0) [] → Below w.heap.size w w' → wpList P ops Q rest (a.put o.dst (.slice (some ⟨w.heap.size, 0, none⟩) n n)) w') : wpList P ops Q (o :: rest) a w := by
  obtain ⟨⟨i, e1, e2, e3, e4, e5⟩, hz, hp⟩ := E
  have hn : 1 * n ≤ bytes * n := Nat.mul_le_mul_right _ hp
  refine wpList_make_full w hgd l c t ho w.heap.size e i z 1 e1 e2 e3 e4 .i64 .i64 _ _ n hl hc rfl rfl (by rw [e5]; exact hb) (by unfold maxLen; omega) (Nat.le_refl _) fun w' h1 h2 => h w' ?_ ⟨h2.os, h2.tape, h2.output, h2.size, fun b hb => h2.block b hb (by simp)⟩
  rcases h1.2 with ⟨h3, _⟩ | ⟨g, cap, cur, h3, h4, h5, h6, h7, h8, h9⟩
  · cases h3
  · injection h3 with e6 e7 e8
    injection e6 with e6
    injection e6 with e6
    subst e6 e8
    have hl := h1.1
    unfold RowAt
    rw [h5]
    congr 2
    rw [hz, Nat.mul_one, toList_madeCells_one] at h9
    rw [Nat.mul_one] at h8
    rw [List.take_of_length_le (by simp [h8])] at h9
    rw [List.map_replicate, hx0, List.append_nil, ← h9]
end

/-- what has turned between two worlds: blocks of S, and new ones -/
structure Turn (w w' : World) (S : Nat → Prop) : Prop where
  os : w'.os = w.os
  tape : w'.tape = w.tape
  output : w'.output = w.output
  size : w.heap.size ≤ w'.heap.size
  block : ∀ b, b < w.heap.size → ¬ S b → w'.heap[b]? = w.heap[b]?
section
variable {a b c w w' : World} {S T : Nat → Prop}
theorem Turn.refl (w : World) (S : Nat → Prop) : Turn w w S := ⟨rfl, rfl, rfl, Nat.le_refl _, fun _ _ _ => rfl⟩
theorem Turn.trans (h : Turn a b S) (k : Turn b c T) (hT : ∀ x, x < a.heap.size → T x → S x) : Turn a c S :=
  ⟨k.os.trans h.os, k.tape.trans h.tape, k.output.trans h.output, Nat.le_trans h.size k.size, fun i hi hn => (k.block i (Nat.lt_of_lt_of_le hi h.size) fun ht => hn (hT i hi ht)).trans (h.block i hi hn)⟩
theorem Turn.mono (h : Turn a b S) (hT : ∀ x, x < a.heap.size → S x → T x) : Turn a b T := ⟨h.os, h.tape, h.output, h.size, fun i hi hn => h.block i hi fun ht => hn (hT i hi ht)⟩
theorem Turn.of_grown {row : Option Nat} (h : a.grownBy b row) : Turn a b (fun x => row = some x) := ⟨h.os, h.tape, h.output, h.size, fun i hi hn => h.block i hi fun e => hn e.symm⟩
theorem Turn.of_below (h : Below a.heap.size a b) (S : Nat → Prop) : Turn a b S := ⟨h.os, h.tape, h.output, h.size, fun i hi _ => h.block i hi⟩
theorem Turn.drewN (h : Turn a b S) (k : Nat) : Turn a (b.drewN k) S := ⟨h.os, h.tape, h.output, h.size, h.block⟩
theorem Turn.drew (h : Turn a b S) : Turn a b.drew S := h.drewN 1
theorem Turn.alloc (h : Turn a b S) (o : Obj) : Turn a (b.alloc o) S := h.trans (Turn.of_below ((Below.refl _ _).alloc (Nat.le_refl _) o) (fun _ => False)) fun _ _ e => e.elim
theorem Turn.setCell (h : Turn a b S) (p : Addr) (hp : p.block < a.heap.size → S p.block) (v : Value) : Turn a (b.setCell p v) S :=
  ⟨h.os, h.tape, h.output, by have := h.size; simpa [World.setCell] using this, fun i hi hn => (Below.heap_setCell b p v i (fun e => hn (by rw [e] at hi ⊢; exact hp hi))).trans (h.block i hi hn)⟩
theorem Turn.below (h : Turn a b S) {B : Nat} (hB : B ≤ a.heap.size) (hS : ∀ x, x < B → ¬ S x) : Below B a b := ⟨h.os, h.tape, h.output, h.size, fun k hk => h.block k (by omega) (hS k hk)⟩
theorem OwnR.turn {α : Type} {enc : α → Value} {base : Nat} {e : TypeId} {A : Option Addr} {n c : Nat} {xs : List α} (h : OwnR enc a base e A n c xs) (ht : Turn a b S) (hS : ∀ g, A = some ⟨g, 0, none⟩ → ¬ S g) : OwnR enc b base e A n c xs := by
  refine ⟨h.1, ?_⟩
  rcases h.2 with h2 | ⟨g, cap, cur, h1, hb, hh, r⟩
  · exact .inl h2
  · have e1 : A = some ⟨g, 0, none⟩ := by injection h1
    exact .inr ⟨g, cap, cur, h1, hb, (ht.block g (Array.getElem?_eq_some_iff.1 hh).1 (hS g e1)).trans hh, r⟩
theorem RowC.turn {g : Nat} {e : TypeId} {cs : List Value} (h : RowC a g e cs) (ht : Turn a b S) (hS : ¬ S g) : RowC b g e cs := (ht.block g h.lt hS).trans h
theorem RowAt.turn {α : Type} {enc : α → Value} {g : Nat} {e : TypeId} {xs : List α} {rest : List Value} (h : RowAt enc a g e xs rest) (ht : Turn a b S) (hS : ¬ S g) : RowAt enc b g e xs rest := (ht.block g h.lt hS).trans h
end
/-- a slice literal -/
theorem Sl.litM {α : Type} [Inhabited α] (enc : α → Value) (w : World) (e : TypeId) (xs : List α) (h : xs.length ≤ 140737488351232) : Sl enc (w.alloc (.cells (xs.map enc).toArray e)) (some ⟨w.heap.size, 0, none⟩) xs.length xs :=
  ⟨rfl, h, fun _ => ⟨w.heap.size, 0, rfl, by simp, fun j hj => by
    rw [cell_of_row _ _ _ _ _ _ (heap_alloc_new w _), Nat.zero_add]
    simp only [List.getElem?_toArray, List.getElem?_map, nth_get? hj]
    rfl⟩⟩
theorem drew_eq (w : World) : w.drew = w.drewN 1 := rfl
end Go.Proofs.Ytgmchedfgdgenaa
