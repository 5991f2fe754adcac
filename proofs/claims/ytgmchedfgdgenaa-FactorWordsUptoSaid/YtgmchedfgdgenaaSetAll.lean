/- Joined by program out of: SortMath, SetMath, CmpI, Choose, Lay, Sort1I, Sort2I, Sort3I, Sort4I, Sort5I, Sl1I, Set1I, Set4I, Set5I. What each says stands at its own head. -/
import Derived.Test.YtgmchedfgdgenaaBase
import Derived.Test.YtgmchedfgdgenaaLaws
import Derived.Laws.IdiomCopy
import Derived.Laws.AppendOwn
import Derived.BigRegion
import Derived.Outline
import Derived.Deep.DeepCutAuto
import Derived.Deep.RegionHeld3
/- Plain facts on stable merging, without any program: lists of pairs (a thing, its place), their strict order, merging two sorted lists, blocks. No condition. -/
namespace Go.Proofs.Ytgmchedfgdgenaa

/-- a strict weak order -/
structure Swo {α : Type} (lt : α → α → Prop) : Prop where
  irr : ∀ x, ¬ lt x x
  tr : ∀ {x y z}, lt x y → lt y z → lt x z
  neg : ∀ {x z}, lt x z → ∀ y, lt x y ∨ lt y z

/-- of two pairs: the lesser thing first, of equal ones the earlier one -/
def zlt {α : Type} (lt : α → α → Prop) (x y : α × Nat) : Prop := lt x.1 y.1 ∨ (¬ lt y.1 x.1 ∧ x.2 < y.2)

section
variable {α : Type} {lt : α → α → Prop}
theorem Swo.asymm (h : Swo lt) {x y : α} (a : lt x y) : ¬ lt y x := fun b => h.irr x (h.tr a b)
theorem zlt_trans (h : Swo lt) {x y z : α × Nat} (a : zlt lt x y) (b : zlt lt y z) : zlt lt x z := by
  rcases a with a | ⟨a, a'⟩ <;> rcases b with b | ⟨b, b'⟩
  · exact .inl (h.tr a b)
  · rcases h.neg a z.1 with c | c
    · exact .inl c
    · exact absurd c b
  · rcases h.neg b x.1 with c | c
    · exact absurd c a
    · exact .inl c
  · exact .inr ⟨fun c => (h.neg c y.1).elim b a, Nat.lt_trans a' b'⟩
theorem zlt_of_lt {x y : α × Nat} (a : lt x.1 y.1) : zlt lt x y := .inl a
/-- a later one is before an earlier one just where its thing is less -/
theorem zlt_late {x y : α × Nat} (hi : y.2 < x.2) : zlt lt x y ↔ lt x.1 y.1 :=
  ⟨fun a => a.elim id fun ⟨_, b⟩ => absurd b (by omega), .inl⟩
theorem zlt_early {x y : α × Nat} (hi : y.2 < x.2) (a : ¬ lt x.1 y.1) : zlt lt y x := .inr ⟨a, hi⟩

/-- sorted, as pairs -/
def Srt (lt : α → α → Prop) (l : List (α × Nat)) : Prop := l.Pairwise (zlt lt)
/-- all of the first list stood ahead of all of the second -/
def Ahead (l r : List (α × Nat)) : Prop := ∀ y, y ∈ l → ∀ x, x ∈ r → y.2 < x.2

theorem nth_pair [Inhabited α] {l : List (α × Nat)} (h : Srt lt l) {i j : Nat} (hij : i < j) (hj : j < l.length) : zlt lt (nth l i) (nth l j) := by
  rw [nth_eq (by omega), nth_eq hj]
  exact List.pairwise_iff_getElem.1 h i j (by omega) hj hij
theorem Srt.append {l r : List (α × Nat)} (hl : Srt lt l) (hr : Srt lt r) (h : ∀ y, y ∈ l → ∀ x, x ∈ r → zlt lt y x) : Srt lt (l ++ r) :=
  List.pairwise_append.2 ⟨hl, hr, h⟩
theorem Srt.left {l r : List (α × Nat)} (h : Srt lt (l ++ r)) : Srt lt l := (List.pairwise_append.1 h).1
theorem Srt.right {l r : List (α × Nat)} (h : Srt lt (l ++ r)) : Srt lt r := (List.pairwise_append.1 h).2.1
theorem Srt.cross {l r : List (α × Nat)} (h : Srt lt (l ++ r)) : ∀ y, y ∈ l → ∀ x, x ∈ r → zlt lt y x := (List.pairwise_append.1 h).2.2

/-- what a merge of l and r is -/
def Merged (lt : α → α → Prop) (l r s : List (α × Nat)) : Prop := s.Perm (l ++ r) ∧ Srt lt s

theorem Merged.nil_left {r : List (α × Nat)} (h : Srt lt r) : Merged lt [] r r := ⟨by simp, h⟩
theorem Merged.nil_right {l : List (α × Nat)} (h : Srt lt l) : Merged lt l [] l := ⟨by simp, h⟩
theorem Merged.mem {l r s : List (α × Nat)} (h : Merged lt l r s) {x : α × Nat} (hx : x ∈ s) : x ∈ l ∨ x ∈ r := by
  have := h.1.mem_iff.1 hx; simpa using this
/-- two halves, all of the first before all of the second -/
theorem Merged.halves {l1 l2 r1 r2 s1 s2 : List (α × Nat)} (h1 : Merged lt l1 r1 s1) (h2 : Merged lt l2 r2 s2)
    (h : ∀ y, y ∈ l1 ∨ y ∈ r1 → ∀ x, x ∈ l2 ∨ x ∈ r2 → zlt lt y x) : Merged lt (l1 ++ l2) (r1 ++ r2) (s1 ++ s2) := by
  refine ⟨?_, Srt.append h1.2 h2.2 fun y hy x hx => h y (h1.mem hy) x (h2.mem hx)⟩
  refine (h1.1.append h2.1).trans ?_
  simp only [List.append_assoc]
  refine List.Perm.append_left _ ?_
  rw [← List.append_assoc, ← List.append_assoc]
  exact List.Perm.append_right _ List.perm_append_comm
end

/-- two elements change places -/
def swp {α : Type} [Inhabited α] (xs : List α) (i j : Nat) : List α := (xs.set i (nth xs j)).set j (nth xs i)
def swapR {α : Type} [Inhabited α] (xs : List α) (a b : Nat) : Nat → List α
  | 0 => xs
  | k + 1 => swp (swapR xs a b k) (a + k) (b + k)
section
variable {α : Type} [Inhabited α]
theorem swp_length (xs : List α) (i j : Nat) : (swp xs i j).length = xs.length := by simp [swp]
theorem swapR_length (xs : List α) (a b k : Nat) : (swapR xs a b k).length = xs.length := by
  induction k with
  | zero => rfl
  | succ k ih => rw [swapR, swp_length, ih]
theorem nth_append (xs ys : List α) (j : Nat) : nth (xs ++ ys) j = if j < xs.length then nth xs j else nth ys (j - xs.length) := by
  split
  · exact nth_append_left (by omega)
  · exact nth_append_right (by omega)
theorem nth_swp (xs : List α) (i j k : Nat) (hi : i < xs.length) (hj : j < xs.length) :
    nth (swp xs i j) k = if k = j then nth xs i else if k = i then nth xs j else nth xs k := by
  unfold swp
  by_cases h1 : k = j
  · subst h1; rw [if_pos rfl, nth_set_same (by simpa using hj)]
  · rw [if_neg h1, nth_set_other (by omega)]
    by_cases h2 : k = i
    · subst h2; rw [if_pos rfl, nth_set_same hi]
    · rw [if_neg h2, nth_set_other (by omega)]
theorem nth_swapR (xs : List α) (a b n : Nat) (h : a + n ≤ b) (hb : b + n ≤ xs.length) (k : Nat) :
    nth (swapR xs a b n) k = if a ≤ k ∧ k < a + n then nth xs (b + (k - a)) else if b ≤ k ∧ k < b + n then nth xs (a + (k - b)) else nth xs k := by
  induction n generalizing k with
  | zero => rw [if_neg (by omega), if_neg (by omega)]; rfl
  | succ n ih =>
    have ih := ih (by omega) (by omega)
    rw [swapR, nth_swp _ _ _ _ (by rw [swapR_length]; omega) (by rw [swapR_length]; omega), ih (a + n), ih (b + n), ih k]
    by_cases h1 : k = b + n
    · subst h1
      rw [if_pos rfl, if_neg (by omega), if_neg (by omega), if_neg (by omega), if_pos (by omega)]
      congr 1; omega
    · rw [if_neg h1]
      by_cases h2 : k = a + n
      · subst h2
        rw [if_pos rfl, if_neg (by omega), if_neg (by omega), if_pos (by omega)]
        congr 1; omega
      · rw [if_neg h2]
        by_cases h3 : a ≤ k ∧ k < a + n
        · rw [if_pos h3, if_pos (by omega)]
        · rw [if_neg h3]
          by_cases h4 : b ≤ k ∧ k < b + n
          · rw [if_pos h4, if_neg (by omega), if_pos (by omega)]
          · rw [if_neg h4, if_neg (by omega), if_neg (by omega)]
/-- two pieces of one length change places -/
theorem swapR_split (P X M Y Q : List α) (h : X.length = Y.length) :
    swapR (P ++ X ++ M ++ Y ++ Q) P.length (P.length + X.length + M.length) X.length = P ++ Y ++ M ++ X ++ Q := by
  refine nth_ext (by rw [swapR_length]; simp; omega) fun k _ => ?_
  rw [nth_swapR _ _ _ _ (by omega) (by simp; omega)]
  simp only [List.append_assoc, nth_append]
  repeat' split
  all_goals first | omega | rfl | (congr 1; omega)
theorem nth_mid {P : List α} {x : α} {Q : List α} {k : Nat} (h : k = P.length) : nth (P ++ x :: Q) k = x := by
  subst h; rw [nth_append_right (Nat.le_refl _)]; simp [nth]
theorem nth_mid1 {P : List α} {x y : α} {Q : List α} {k : Nat} (h : k = P.length + 1) : nth (P ++ x :: y :: Q) k = y := by
  subst h; rw [nth_append_right (by omega)]; simp [nth, Nat.add_sub_cancel_left]
end
section
variable {α : Type}
theorem set_mid {P : List α} {x y v u : α} {Q : List α} {k : Nat} (h : k = P.length) : ((P ++ x :: y :: Q).set (k + 1) v).set k u = P ++ u :: v :: Q := by
  subst h; rw [List.set_append_right _ _ (by omega)]; simp
theorem set_mid' {P : List α} {x y v u : α} {Q : List α} {k : Nat} (h : k = P.length) : ((P ++ x :: y :: Q).set k u).set (k + 1) v = P ++ u :: v :: Q := by
  subst h; rw [List.set_append_right _ _ (by omega)]; simp
end

/-- the piece of a list from a place on -/
def seg {α : Type} (xs : List α) (a l : Nat) : List α := (xs.drop a).take l
section
variable {α : Type}
theorem seg_length {xs : List α} {a l : Nat} (h : a + l ≤ xs.length) : (seg xs a l).length = l := by simp [seg]; omega
theorem seg_split (xs : List α) (a l r : Nat) : seg xs a (l + r) = seg xs a l ++ seg xs (a + l) r := by
  simp only [seg, List.take_add, List.drop_drop]
theorem seg_all {xs : List α} {l : Nat} (h : xs.length ≤ l) : seg xs 0 l = xs := by simp [seg, List.take_of_length_le h]
theorem seg_full {xs : List α} {a l : Nat} (h : xs.length ≤ a + l) : seg xs a l = xs.drop a := by
  simp only [seg]; exact List.take_of_length_le (by simp; omega)
theorem split3 (xs : List α) (a l : Nat) : xs = xs.take a ++ seg xs a l ++ xs.drop (a + l) := by
  rw [seg, List.append_assoc, ← List.drop_drop, List.take_append_drop, List.take_append_drop]
/-- another piece of it is as it was: ahead -/
theorem seg_before {xs s : List α} {a l : Nat} (ha : a ≤ xs.length) {c k : Nat} (h : c + k ≤ a) : seg (xs.take a ++ s ++ xs.drop (a + l)) c k = seg xs c k := by
  simp only [seg, List.append_assoc]
  rw [List.drop_append, List.take_append, List.drop_take, List.take_take, Nat.min_eq_left (by omega)]
  have : k - ((xs.drop c).take (a - c)).length = 0 := by simp; omega
  rw [this]; simp
/-- .. behind -/
theorem seg_after {xs s : List α} {a l : Nat} (hl : a + l ≤ xs.length) (hs : s.length = l) {c k : Nat} (h : a + l ≤ c) : seg (xs.take a ++ s ++ xs.drop (a + l)) c k = seg xs c k := by
  simp only [seg]
  rw [List.drop_append, List.drop_of_length_le (by simp; omega), List.nil_append, List.drop_drop]
  congr 2
  simp
  omega
theorem seg_here {xs s : List α} {a l : Nat} (ha : a ≤ xs.length) (hs : s.length = l) : seg (xs.take a ++ s ++ xs.drop (a + l)) a l = s := by
  simp only [seg, List.append_assoc]
  rw [List.drop_append, List.drop_of_length_le (by simp; omega)]
  simp only [List.nil_append, List.length_take, Nat.min_eq_left ha, Nat.sub_self, List.drop_zero]
  rw [List.take_append_of_le_length (by omega), List.take_of_length_le (by omega)]
end

section
variable {α : Type} {lt : α → α → Prop}
/-- the piece of cur is the piece of zs, sorted -/
def Good (lt : α → α → Prop) (zs cur : List (α × Nat)) (a l : Nat) : Prop := (seg cur a l).Perm (seg zs a l) ∧ Srt lt (seg cur a l)
/-- the places rise -/
def Ups (zs : List (α × Nat)) : Prop := zs.Pairwise (fun x y => x.2 < y.2)
theorem Ups.seg {zs : List (α × Nat)} (h : Ups zs) (a l : Nat) : Ups (seg zs a l) :=
  List.Pairwise.sublist ((List.take_sublist _ _).trans (List.drop_sublist _ _)) h
theorem Good.ahead {zs cur : List (α × Nat)} (hu : Ups zs) {a l r : Nat} (h1 : Good lt zs cur a l) (h2 : Good lt zs cur (a + l) r) : Ahead (seg cur a l) (seg cur (a + l) r) := by
  have h := hu.seg a (l + r)
  rw [seg_split] at h
  intro y hy x hx
  exact (List.pairwise_append.1 h).2.2 y (h1.1.mem_iff.1 hy) x (h2.1.mem_iff.1 hx)
theorem Good.merge {zs cur : List (α × Nat)} {a l r : Nat} (h1 : Good lt zs cur a l) (h2 : Good lt zs cur (a + l) r) (hl : a + (l + r) ≤ cur.length) {s : List (α × Nat)}
    (hm : Merged lt (seg cur a l) (seg cur (a + l) r) s) : Good lt zs (cur.take a ++ s ++ cur.drop (a + (l + r))) a (l + r) := by
  have hs : s.length = l + r := by rw [hm.1.length_eq, List.length_append, seg_length (by omega), seg_length (by omega)]
  unfold Good
  rw [seg_here (by omega) hs]
  refine ⟨?_, hm.2⟩
  rw [seg_split]
  exact hm.1.trans (h1.1.append h2.1)
theorem Good.before {zs cur s : List (α × Nat)} {a l c k : Nat} (h : Good lt zs cur c k) (ha : a ≤ cur.length) (hc : c + k ≤ a) : Good lt zs (cur.take a ++ s ++ cur.drop (a + l)) c k := by
  unfold Good at *; rwa [seg_before ha hc]
theorem Good.after {zs cur s : List (α × Nat)} {a l c k : Nat} (h : Good lt zs cur c k) (hl : a + l ≤ cur.length) (hs : s.length = l) (hc : a + l ≤ c) : Good lt zs (cur.take a ++ s ++ cur.drop (a + l)) c k := by
  unfold Good at *; rwa [seg_after hl hs hc]
end

/-- of two multiples the lesser one is not above the other by less than one step -/
theorem dvd_same {s a b : Nat} (ha : s ∣ a) (hb : s ∣ b) (h1 : b ≤ a) (h2 : a < b + s) : a = b := by
  have h := Nat.eq_zero_of_dvd_of_lt (Nat.dvd_sub ha hb) (by omega)
  omega
section
variable {α : Type} {lt : α → α → Prop}
/-- each block of bs is sorted -/
def Blocks (lt : α → α → Prop) (zs cur : List (α × Nat)) (bs : Nat) : Prop := ∀ a, bs ∣ a → Good lt zs cur a bs
theorem Good.beyond {zs cur : List (α × Nat)} (h : cur.length = zs.length) {a l : Nat} (ha : zs.length ≤ a) : Good lt zs cur a l := by
  unfold Good seg
  rw [List.drop_of_length_le (by omega), List.drop_of_length_le ha]
  exact ⟨by simp, by simp [Srt]⟩
theorem Good.longer {zs cur : List (α × Nat)} (h : cur.length = zs.length) {a l l' : Nat} (hg : Good lt zs cur a l) (ha : zs.length ≤ a + l) (hl : l ≤ l') : Good lt zs cur a l' := by
  unfold Good at *
  rw [seg_full (by omega), seg_full (by omega)] at *
  exact hg
theorem Good.start {zs : List (α × Nat)} {cur : List (α × Nat)} {a l : Nat} (hd : cur.drop a = zs.drop a) (ha : a + l ≤ zs.length) {s : List (α × Nat)} (hl : cur.length = zs.length)
    (hp : s.Perm (seg cur a l)) (hs : Srt lt s) : Good lt zs (cur.take a ++ s ++ cur.drop (a + l)) a l := by
  unfold Good
  rw [seg_here (by omega) (by rw [hp.length_eq, seg_length (by omega)])]
  refine ⟨?_, hs⟩
  unfold seg at *
  rw [← hd]; exact hp
theorem put_length {xs s : List (α × Nat)} {a l : Nat} (h : a + l ≤ xs.length) (hs : s.length = l) : (xs.take a ++ s ++ xs.drop (a + l)).length = xs.length := by simp; omega
/-- the state of a pass that merges blocks of bs by two: merged up to a -/
structure Pass (lt : α → α → Prop) (zs cur : List (α × Nat)) (bs a : Nat) : Prop where
  len : cur.length = zs.length
  dvd : bs + bs ∣ a
  le : a ≤ zs.length
  done : ∀ c, bs + bs ∣ c → c + (bs + bs) ≤ a → Good lt zs cur c (bs + bs)
  todo : ∀ c, bs ∣ c → a ≤ c → Good lt zs cur c bs
theorem Pass.start {zs cur : List (α × Nat)} {bs : Nat} (h : Blocks lt zs cur bs) (hl : cur.length = zs.length) (hb : 0 < bs) : Pass lt zs cur bs 0 :=
  ⟨hl, Nat.dvd_zero _, Nat.zero_le _, fun c _ h => by omega, fun c hc _ => h c hc⟩
theorem Pass.step {zs cur : List (α × Nat)} {bs a : Nat} (h : Pass lt zs cur bs a) (hb : 0 < bs) (hn : a + (bs + bs) ≤ zs.length) {s : List (α × Nat)}
    (hm : Merged lt (seg cur a bs) (seg cur (a + bs) bs) s) : Pass lt zs (cur.take a ++ s ++ cur.drop (a + (bs + bs))) bs (a + (bs + bs)) := by
  have hl := h.len
  have hs : s.length = bs + bs := by rw [hm.1.length_eq, List.length_append, seg_length (by omega), seg_length (by omega)]
  have hbs : bs ∣ bs + bs := Nat.dvd_add (Nat.dvd_refl _) (Nat.dvd_refl _)
  have hba : bs ∣ a := Nat.dvd_trans hbs h.dvd
  refine ⟨by rw [put_length (by omega) hs, hl], Nat.dvd_add h.dvd (Nat.dvd_refl _), hn, fun c hc hca => ?_, fun c hc hca => ?_⟩
  · by_cases e : c + (bs + bs) ≤ a
    · exact (h.done c hc e).before (by omega) e
    · obtain rfl : a = c := dvd_same h.dvd hc (by omega) (by omega)
      exact Good.merge (h.todo a hba (Nat.le_refl _)) (h.todo (a + bs) (Nat.dvd_add hba (Nat.dvd_refl _)) (by omega)) (by omega) hm
  · exact (h.todo c hc (by omega)).after (by omega) hs hca
/-- the end of a pass: the last block is alone, or two are left, the second one short -/
theorem Pass.last_one {zs cur : List (α × Nat)} {bs a : Nat} (h : Pass lt zs cur bs a) (hb : 0 < bs) (hn : zs.length ≤ a + bs) : Blocks lt zs cur (bs + bs) := by
  have hbs : bs ∣ bs + bs := Nat.dvd_add (Nat.dvd_refl _) (Nat.dvd_refl _)
  intro c hc
  by_cases e : c + (bs + bs) ≤ a
  · exact h.done c hc e
  · by_cases e2 : c ≤ a
    · obtain rfl : a = c := dvd_same h.dvd hc e2 (by omega)
      exact (h.todo a (Nat.dvd_trans hbs h.dvd) (Nat.le_refl _)).longer h.len hn (by omega)
    · refine Good.beyond h.len ?_
      have : ¬ c < a + (bs + bs) := fun e3 => by
        have := dvd_same hc h.dvd (by omega) e3
        omega
      omega
theorem Pass.last_two {zs cur : List (α × Nat)} {bs a r : Nat} (h : Pass lt zs cur bs a) (hb : 0 < bs) (hr : a + bs + r = zs.length) (hrb : r ≤ bs) {s : List (α × Nat)}
    (hm : Merged lt (seg cur a bs) (seg cur (a + bs) r) s) : Blocks lt zs (cur.take a ++ s ++ cur.drop (a + (bs + r))) (bs + bs) ∧ (cur.take a ++ s ++ cur.drop (a + (bs + r))).length = zs.length := by
  have hl := h.len
  have hs : s.length = bs + r := by rw [hm.1.length_eq, List.length_append, seg_length (by omega), seg_length (by omega)]
  have hbs : bs ∣ bs + bs := Nat.dvd_add (Nat.dvd_refl _) (Nat.dvd_refl _)
  have hba : bs ∣ a := Nat.dvd_trans hbs h.dvd
  have hlen : (cur.take a ++ s ++ cur.drop (a + (bs + r))).length = zs.length := by rw [put_length (by omega) hs, hl]
  refine ⟨fun c hc => ?_, hlen⟩
  by_cases e : c + (bs + bs) ≤ a
  · exact (h.done c hc e).before (by omega) e
  · by_cases e2 : c ≤ a
    · obtain rfl : a = c := dvd_same h.dvd hc e2 (by omega)
      have h2 : Good lt zs cur (a + bs) r := by
        have h3 := h.todo (a + bs) (Nat.dvd_add hba (Nat.dvd_refl _)) (by omega)
        unfold Good at h3 ⊢
        rw [seg_full (by omega), seg_full (by omega)] at h3 ⊢
        exact h3
      exact (Good.merge (h.todo a hba (Nat.le_refl _)) h2 (by omega) hm).longer hlen (by omega) (by omega)
    · refine Good.beyond hlen ?_
      have : ¬ c < a + (bs + bs) := fun e3 => by
        have := dvd_same hc h.dvd (by omega) e3
        omega
      omega
theorem Blocks.whole {zs cur : List (α × Nat)} {bs : Nat} (h : Blocks lt zs cur bs) (hl : cur.length = zs.length) (hb : zs.length ≤ bs) : cur.Perm zs ∧ Srt lt cur := by
  have h := h 0 (Nat.dvd_zero _)
  unfold Good at h
  rwa [seg_all (by omega), seg_all hb] at h
end
end Go.Proofs.Ytgmchedfgdgenaa
/- Plain facts on sets as rising lists, without any program, over a three-way comparison. No condition beyond that it compares. -/
namespace Go.Proofs.Ytgmchedfgdgenaa

/-- what a three-way comparison is -/
structure CmpOk {α : Type} (c : α → α → Int) : Prop where
  swo : Swo (fun a b => c a b < 0)
  flip : ∀ a b, 0 < c a b ↔ c b a < 0

section
variable {α : Type} {c : α → α → Int}
theorem CmpOk.self (h : CmpOk c) (a : α) : c a a = 0 := by
  have h1 := h.swo.irr a
  have h2 := h.flip a a
  have h1 : ¬ c a a < 0 := h1
  omega
theorem CmpOk.zero_symm (h : CmpOk c) {a b : α} (e : c a b = 0) : c b a = 0 := by
  have h1 := h.flip a b
  have h2 := h.flip b a
  omega
theorem CmpOk.lt_trans (h : CmpOk c) {a b d : α} (h1 : c a b < 0) (h2 : c b d < 0) : c a d < 0 := h.swo.tr h1 h2
theorem CmpOk.zero_lt (h : CmpOk c) {a b d : α} (h1 : c a b = 0) (h2 : c b d < 0) : c a d < 0 := by
  rcases h.swo.neg h2 a with h3 | h3
  · have h3 : c b a < 0 := h3
    have := h.zero_symm h1; omega
  · exact h3
theorem CmpOk.lt_zero (h : CmpOk c) {a b d : α} (h1 : c a b < 0) (h2 : c b d = 0) : c a d < 0 := by
  rcases h.swo.neg h1 d with h3 | h3
  · exact h3
  · have h3 : c d b < 0 := h3
    have := h.zero_symm h2; omega
theorem CmpOk.zero_trans (h : CmpOk c) {a b d : α} (h1 : c a b = 0) (h2 : c b d = 0) : c a d = 0 := by
  have h3 : ¬ c a d < 0 := fun h3 => by
    have := h.zero_lt (h.zero_symm h1) h3; omega
  have h4 : ¬ c d a < 0 := fun h4 => by
    have := h.lt_zero h4 h1
    have := h.zero_symm h2; omega
  have := h.flip a d
  omega

/-- a rising list -/
def Asc (c : α → α → Int) (l : List α) : Prop := l.Pairwise (fun a b => c a b < 0)
theorem Asc.ext (h : CmpOk c) : ∀ {l r : List α}, Asc c l → Asc c r → (∀ x, x ∈ l ↔ x ∈ r) → l = r
  | [], [], _, _, _ => rfl
  | [], y :: r, _, _, e => by have := (e y).2 (by simp); simp at this
  | x :: l, [], _, _, e => by have := (e x).1 (by simp); simp at this
  | x :: l, y :: r, hl, hr, e => by
    obtain ⟨hx, hl2⟩ := List.pairwise_cons.1 hl
    obtain ⟨hy, hr2⟩ := List.pairwise_cons.1 hr
    have hxy : x = y := by
      rcases List.mem_cons.1 ((e x).1 (by simp)) with h1 | h1
      · exact h1
      · rcases List.mem_cons.1 ((e y).2 (by simp)) with h2 | h2
        · exact h2.symm
        · have h3 : c y x < 0 := hy x h1
          have h4 : c x y < 0 := hx y h2
          exact absurd h4 (h.swo.asymm h3)
    subst hxy
    have hn : ∀ (z : α) (t : List α), (∀ u, u ∈ t → c z u < 0) → z ∉ t := fun z t ht hz => h.swo.irr z (ht z hz)
    refine congrArg (x :: ·) (Asc.ext h hl2 hr2 fun z => ?_)
    constructor
    · intro hz
      rcases List.mem_cons.1 ((e z).1 (List.mem_cons_of_mem _ hz)) with h1 | h1
      · subst h1; exact absurd hz (hn _ _ hx)
      · exact h1
    · intro hz
      rcases List.mem_cons.1 ((e z).2 (List.mem_cons_of_mem _ hz)) with h1 | h1
      · subst h1; exact absurd hz (hn _ _ hy)
      · exact h1

/-- a thing put into a rising list, unless an equal one is in -/
def ins (c : α → α → Int) (x : α) : List α → List α
  | [] => [x]
  | y :: l => if c x y < 0 then x :: y :: l else if c x y = 0 then y :: l else y :: ins c x l
/-- of some things the rising list -/
def setOf (c : α → α → Int) (xs : List α) : List α := xs.foldl (fun acc x => ins c x acc) []
theorem setOf_snoc (xs : List α) (x : α) : setOf c (xs ++ [x]) = ins c x (setOf c xs) := by simp [setOf]

theorem ins_length_le (x : α) : ∀ l : List α, (ins c x l).length ≤ l.length + 1
  | [] => by simp [ins]
  | y :: l => by
    unfold ins
    split
    · simp
    · split
      · simp
      · have := ins_length_le x l; simp; omega
theorem setOf_length_le (xs : List α) : (setOf c xs).length ≤ xs.length := by
  have key : ∀ (xs acc : List α), (xs.foldl (fun acc x => ins c x acc) acc).length ≤ acc.length + xs.length := by
    intro xs
    induction xs with
    | nil => intro acc; simp
    | cons x xs ih => intro acc; have h1 := ih (ins c x acc); have h2 := ins_length_le (c := c) x acc; simp; omega
  have := key xs []
  simpa [setOf] using this
/-- is an equal one in? -/
def isIn (c : α → α → Int) (x : α) (l : List α) : Bool := l.any (fun y => c y x == 0)
theorem isIn_iff {x : α} {l : List α} : isIn c x l = true ↔ ∃ y, y ∈ l ∧ c y x = 0 := by simp [isIn]
theorem mem_ins (h : CmpOk c) {x z : α} : ∀ {l : List α}, Asc c l → (z ∈ ins c x l ↔ z ∈ l ∨ (z = x ∧ isIn c x l = false))
  | [], _ => by simp [ins, isIn]
  | y :: l, hl => by
    obtain ⟨hy, hl⟩ := List.pairwise_cons.1 hl
    unfold ins
    by_cases h1 : c x y < 0
    · rw [if_pos h1]
      have hin : isIn c x (y :: l) = false := by
        rw [← Bool.not_eq_true, isIn_iff]
        rintro ⟨u, hu, h2⟩
        rcases List.mem_cons.1 hu with rfl | hu
        · have := h.zero_symm h2; omega
        · have h3 := h.lt_trans h1 (hy u hu)
          have := h.zero_symm h2; omega
      simp [hin, or_comm]
    · rw [if_neg h1]
      by_cases h2 : c x y = 0
      · rw [if_pos h2]
        have hin : isIn c x (y :: l) = true := isIn_iff.2 ⟨y, by simp, h.zero_symm h2⟩
        simp [hin]
      · rw [if_neg h2, List.mem_cons, mem_ins h hl]
        have hyx : ¬ c y x = 0 := fun e => h2 (h.zero_symm e)
        have hin : isIn c x (y :: l) = isIn c x l := by simp [isIn, hyx]
        rw [hin, List.mem_cons, or_assoc]
theorem asc_ins (h : CmpOk c) {x : α} : ∀ {l : List α}, Asc c l → Asc c (ins c x l)
  | [], _ => by simp [ins, Asc]
  | y :: l, hl => by
    obtain ⟨hy, hl'⟩ := List.pairwise_cons.1 hl
    unfold ins
    by_cases h1 : c x y < 0
    · rw [if_pos h1]
      refine List.pairwise_cons.2 ⟨fun u hu => ?_, hl⟩
      rcases List.mem_cons.1 hu with rfl | hu
      · exact h1
      · exact h.lt_trans h1 (hy u hu)
    · rw [if_neg h1]
      by_cases h2 : c x y = 0
      · rw [if_pos h2]; exact hl
      · rw [if_neg h2]
        refine List.pairwise_cons.2 ⟨fun u hu => ?_, asc_ins h hl'⟩
        rcases (mem_ins h hl').1 hu with hu | ⟨rfl, _⟩
        · exact hy u hu
        · have := h.flip u y; omega
theorem asc_setOf (h : CmpOk c) (xs : List α) : Asc c (setOf c xs) := by
  have key : ∀ (xs acc : List α), Asc c acc → Asc c (xs.foldl (fun acc x => ins c x acc) acc) := by
    intro xs
    induction xs with
    | nil => intro acc ha; exact ha
    | cons x xs ih => intro acc ha; exact ih _ (asc_ins h ha)
  exact key xs [] List.Pairwise.nil
/-- the first of each kind is in -/
theorem mem_setOf (h : CmpOk c) (z : α) (xs : List α) : z ∈ setOf c xs ↔ ∃ i, i < xs.length ∧ xs[i]? = some z ∧ ∀ j y, j < i → xs[j]? = some y → c y z ≠ 0 := by
  induction hn : xs.length generalizing xs z with
  | zero =>
    obtain rfl := List.eq_nil_of_length_eq_zero hn
    simp [setOf]
  | succ n ih =>
    rcases List.eq_nil_or_concat xs with rfl | ⟨ys, x, rfl⟩
    · simp at hn
    · rw [List.concat_eq_append] at *
      have hn' : ys.length = n := by simpa using hn
      rw [setOf_snoc, mem_ins h (asc_setOf h ys), ih z ys hn']
      constructor
      · rintro (⟨i, hi, e, hj⟩ | ⟨rfl, hin⟩)
        · refine ⟨i, by omega, by rw [List.getElem?_append_left (by omega)]; exact e, fun j y hji ey => hj j y hji ?_⟩
          rwa [List.getElem?_append_left (by omega)] at ey
        · refine ⟨n, by omega, by rw [List.getElem?_append_right (by omega)]; simp [hn'], fun j y hji ey e0 => ?_⟩
          rw [List.getElem?_append_left (by omega)] at ey
          -- an equal one is already in
          have hex : ∃ i y, i < ys.length ∧ ys[i]? = some y ∧ c y z = 0 ∧ ∀ k u, k < i → ys[k]? = some u → c u z ≠ 0 := by
            have key : ∀ m j : Nat, j ≤ m → ∀ y : α, ys[j]? = some y → c y z = 0 → ∃ i y, i < ys.length ∧ ys[i]? = some y ∧ c y z = 0 ∧ ∀ k u, k < i → ys[k]? = some u → c u z ≠ 0 := by
              intro m
              induction m with
              | zero =>
                intro j hj y hy h0
                refine ⟨j, y, (List.getElem?_eq_some_iff.1 hy).1, hy, h0, fun k u hk => by omega⟩
              | succ m ihm =>
                intro j hj y hy h0
                by_cases hk : ∃ k u, k < j ∧ ys[k]? = some u ∧ c u z = 0
                · obtain ⟨k, u, hk, hu, hu0⟩ := hk
                  exact ihm k (by omega) u hu hu0
                · exact ⟨j, y, (List.getElem?_eq_some_iff.1 hy).1, hy, h0, fun k u hk' hu hu0 => hk ⟨k, u, hk', hu, hu0⟩⟩
            exact key j j (Nat.le_refl _) y ey e0
          obtain ⟨i, u, hi, hu, hu0, hfirst⟩ := hex
          have hmem : u ∈ setOf c ys := (ih u ys hn').2 ⟨i, by omega, hu, fun k v hk hv hv0 => hfirst k v hk hv (h.zero_trans hv0 hu0)⟩
          have : isIn c z (setOf c ys) = true := isIn_iff.2 ⟨u, hmem, hu0⟩
          rw [hin] at this; cases this
      · rintro ⟨i, hi, e, hj⟩
        by_cases hin : i < n
        · left
          refine ⟨i, hin, by rwa [List.getElem?_append_left (by omega)] at e, fun j y hji ey => hj j y hji ?_⟩
          rw [List.getElem?_append_left (by omega)]; exact ey
        · right
          obtain rfl : i = n := by omega
          rw [List.getElem?_append_right (by omega)] at e
          simp [hn'] at e
          subst e
          refine ⟨rfl, ?_⟩
          rw [← Bool.not_eq_true, isIn_iff]
          rintro ⟨u, hu, hu0⟩
          obtain ⟨k, hk, hku, _⟩ := (ih u ys hn').1 hu
          exact hj k u hk (by rw [List.getElem?_append_left (by omega)]; exact hku) hu0

/-- of each run of equal neighbours the first one -/
def ddF (eq : α → α → Bool) : α → List α → List α
  | _, [] => []
  | p, y :: ys => if eq y p then ddF eq y ys else y :: ddF eq y ys
def dd (eq : α → α → Bool) : List α → List α
  | [] => []
  | x :: xs => x :: ddF eq x xs
theorem ddF_snoc (eq : α → α → Bool) : ∀ (ys : List α) (p y : α), ddF eq p (ys ++ [y]) = if eq y ((p :: ys).getLast (by simp)) then ddF eq p ys else ddF eq p ys ++ [y]
  | [], p, y => by rfl
  | z :: ys, p, y => by
    simp only [List.cons_append, ddF, ddF_snoc eq ys z y, List.getLast_cons_cons]
    split <;> split <;> simp_all
theorem dd_step [Inhabited α] (eq : α → α → Bool) (xs : List α) (k : Nat) (hk : 0 < k) (h : k < xs.length) :
    dd eq (xs.take (k + 1)) = if eq (nth xs k) (nth xs (k - 1)) then dd eq (xs.take k) else dd eq (xs.take k) ++ [nth xs k] := by
  rw [take_snoc h]
  have hne : xs.take k ≠ [] := by
    rw [Ne, List.take_eq_nil_iff]
    rintro (h1 | h1)
    · omega
    · subst h1; simp at h
  have hl : nth xs (k - 1) = (xs.take k).getLast hne := by
    rw [List.getLast_eq_getElem, nth_eq (by omega)]
    simp [Nat.min_eq_left (Nat.le_of_lt h)]
  rcases hx : xs.take k with _ | ⟨x, ys⟩
  · exact absurd hx hne
  · simp only [hx] at hl
    simp only [List.cons_append, dd, ddF_snoc, ← hl]
    split <;> rfl
theorem ddF_length_le (eq : α → α → Bool) : ∀ (ys : List α) (p : α), (ddF eq p ys).length ≤ ys.length := by
  intro ys
  induction ys with
  | nil => intro p; simp [ddF]
  | cons y ys ih => intro p; simp only [ddF]; split <;> (have := ih y; simp; omega)
theorem dd_length_le (eq : α → α → Bool) (xs : List α) : (dd eq xs).length ≤ xs.length := by
  cases xs with
  | nil => simp [dd]
  | cons x xs => have := ddF_length_le eq xs x; simp [dd]; omega

/-- what is kept of a sorted list of pairs: the earliest of each kind -/
theorem ddF_sorted (h : CmpOk c) : ∀ (S : List (α × Nat)) (p : α × Nat), Srt (fun a b => c a b < 0) (p :: S) →
    Asc c (p.1 :: ddF (fun a b => c a b == 0) p.1 (S.map Prod.fst)) ∧
    ∀ z, z ∈ (p.1 :: ddF (fun a b => c a b == 0) p.1 (S.map Prod.fst)) ↔ ∃ i, (z, i) ∈ p :: S ∧ ∀ y j, (y, j) ∈ p :: S → c y z = 0 → i ≤ j
  | [], p, _ => by
    refine ⟨by simp [ddF, Asc], fun z => ?_⟩
    simp only [List.map_nil, ddF, List.mem_singleton]
    constructor
    · rintro rfl; exact ⟨p.2, rfl, fun y j e _ => by rw [← e]; exact Nat.le_refl _⟩
    · rintro ⟨i, e, _⟩; rw [← e]
  | q :: S, p, hs => by
    obtain ⟨hp, hs'⟩ := List.pairwise_cons.1 hs
    have ih := ddF_sorted h S q hs'
    have hpq : zlt (fun a b => c a b < 0) p q := hp q (by simp)
    simp only [List.map_cons, ddF]
    by_cases e0 : c q.1 p.1 = 0
    · -- q is of p's kind: it is left out
      have hlt : p.2 < q.2 := by
        rcases hpq with h1 | ⟨_, h1⟩
        · have h1 : c p.1 q.1 < 0 := h1
          have := h.zero_symm e0; omega
        · exact h1
      rw [if_pos (by simpa using e0)]
      obtain ⟨ih1, ih2⟩ := ih
      obtain ⟨ih3, ih4⟩ := List.pairwise_cons.1 ih1
      have hasc : Asc c (p.1 :: ddF (fun a b => c a b == 0) q.1 (S.map Prod.fst)) := List.pairwise_cons.2 ⟨fun u hu => h.zero_lt (h.zero_symm e0) (ih3 u hu), ih4⟩
      refine ⟨hasc, fun z => ?_⟩
      rw [List.mem_cons]
      constructor
      · rintro (rfl | hz)
        · refine ⟨p.2, by simp, fun y j hy hy0 => ?_⟩
          rcases List.mem_cons.1 hy with e | hy
          · rw [← e]; exact Nat.le_refl _
          · have hl := hp _ hy
            rcases hl with h1 | ⟨_, h1⟩
            · have h1 : c p.1 y < 0 := h1
              have := h.zero_symm hy0; omega
            · exact Nat.le_of_lt h1
        · obtain ⟨i, hi, hj⟩ := (ih2 z).1 (List.mem_cons_of_mem _ hz)
          refine ⟨i, List.mem_cons_of_mem _ hi, fun y j hy hy0 => ?_⟩
          rcases List.mem_cons.1 hy with e | hy
          · have h1 : c q.1 z < 0 := ih3 z hz
            have h2 := h.zero_lt (h.zero_symm e0) h1
            rw [← e] at h2
            exact absurd h2 (by rw [hy0]; omega)
          · exact hj y j hy hy0
      · rintro ⟨i, hi, hj⟩
        rcases List.mem_cons.1 hi with e | hi
        · left; rw [← e]
        · right
          have hz := (ih2 z).2 ⟨i, hi, fun y j hy hy0 => hj y j (List.mem_cons_of_mem _ hy) hy0⟩
          rcases List.mem_cons.1 hz with rfl | hz
          · -- z is q's thing: then p, which is earlier, is of its kind
            have h1 := hj p.1 p.2 (by simp) (h.zero_symm e0)
            rcases List.mem_cons.1 hi with e | hi
            · rw [← e] at hlt; simp at hlt; omega
            · have h2 := (List.pairwise_cons.1 hs').1 _ hi
              rcases h2 with h3 | ⟨_, h3⟩
              · have h3 : c q.1 q.1 < 0 := h3
                rw [h.self] at h3; omega
              · simp at h3; omega
          · exact hz
    · rw [if_neg (by simpa using e0)]
      obtain ⟨ih1, ih2⟩ := ih
      have hlt : c p.1 q.1 < 0 := by
        rcases hpq with h1 | ⟨h1, _⟩
        · exact h1
        · have h1 : ¬ c q.1 p.1 < 0 := h1
          have := h.flip q.1 p.1
          omega
      have hall : ∀ u, u ∈ (q.1 :: ddF (fun a b => c a b == 0) q.1 (S.map Prod.fst)) → c p.1 u < 0 := by
        intro u hu
        rcases List.mem_cons.1 hu with rfl | hu
        · exact hlt
        · exact h.lt_trans hlt ((List.pairwise_cons.1 ih1).1 u hu)
      refine ⟨List.pairwise_cons.2 ⟨hall, ih1⟩, fun z => ?_⟩
      rw [List.mem_cons]
      constructor
      · rintro (rfl | hz)
        · refine ⟨p.2, by simp, fun y j hy hy0 => ?_⟩
          rcases List.mem_cons.1 hy with e | hy
          · rw [← e]; exact Nat.le_refl _
          · have hl := hp _ hy
            rcases hl with h1 | ⟨_, h1⟩
            · have h1 : c p.1 y < 0 := h1
              have := h.zero_symm hy0; omega
            · exact Nat.le_of_lt h1
        · obtain ⟨i, hi, hj⟩ := (ih2 z).1 hz
          refine ⟨i, List.mem_cons_of_mem _ hi, fun y j hy hy0 => ?_⟩
          rcases List.mem_cons.1 hy with e | hy
          · have h2 := hall z hz
            rw [← e] at h2
            exact absurd h2 (by rw [hy0]; omega)
          · exact hj y j hy hy0
      · rintro ⟨i, hi, hj⟩
        rcases List.mem_cons.1 hi with e | hi
        · left; rw [← e]
        · right
          exact (ih2 z).2 ⟨i, hi, fun y j hy hy0 => hj y j (List.mem_cons_of_mem _ hy) hy0⟩
/-- SORTED STABLY AND THINNED OUT: just the set of what there was -/
theorem dd_setOf (h : CmpOk c) {xs : List α} {S : List (α × Nat)} (hp : S.Perm xs.zipIdx) (hs : Srt (fun a b => c a b < 0) S) : dd (fun a b => c a b == 0) (S.map Prod.fst) = setOf c xs := by
  have hmem : ∀ z i, (z, i) ∈ S ↔ xs[i]? = some z := by
    intro z i
    rw [hp.mem_iff, List.mem_zipIdx_iff_getElem?]
  have key : Asc c (dd (fun a b => c a b == 0) (S.map Prod.fst)) ∧ ∀ z, z ∈ dd (fun a b => c a b == 0) (S.map Prod.fst) ↔ ∃ i, (z, i) ∈ S ∧ ∀ y j, (y, j) ∈ S → c y z = 0 → i ≤ j := by
    rcases S with _ | ⟨p, S⟩
    · exact ⟨List.Pairwise.nil, by simp [dd]⟩
    · exact ddF_sorted h S p hs
  refine Asc.ext h key.1 (asc_setOf h xs) fun z => ?_
  rw [key.2, mem_setOf h]
  constructor
  · rintro ⟨i, hi, hj⟩
    rw [hmem] at hi
    refine ⟨i, (List.getElem?_eq_some_iff.1 hi).1, hi, fun j y hji hy h0 => ?_⟩
    have := hj y j ((hmem y j).2 hy) h0
    omega
  · rintro ⟨i, _, hi, hj⟩
    refine ⟨i, (hmem z i).2 hi, fun y j hy h0 => ?_⟩
    by_cases e : j < i
    · exact absurd h0 (hj j y e ((hmem y j).1 hy))
    · omega
end

/-- i is where x stands in a rising list, or would stand -/
structure Place {α : Type} [Inhabited α] (c : α → α → Int) (xs : List α) (x : α) (i : Nat) : Prop where
  le : i ≤ xs.length
  lo : ∀ t, t < i → c (nth xs t) x < 0
  hi : ∀ t, i ≤ t → t < xs.length → ¬ c (nth xs t) x < 0
section
variable {α : Type} [Inhabited α] {c : α → α → Int} {xs : List α} {x : α} {i : Nat}
theorem nth_asc (h : Asc c xs) {i j : Nat} (hij : i < j) (hj : j < xs.length) : c (nth xs i) (nth xs j) < 0 := by
  rw [nth_eq (by omega), nth_eq hj]
  exact List.pairwise_iff_getElem.1 h i j (by omega) hj hij
theorem Place.isIn (h : CmpOk c) (p : Place c xs x i) (ha : Asc c xs) : isIn c x xs = (decide (i < xs.length) && (c (nth xs i) x == 0)) := by
  rw [Bool.eq_iff_iff, isIn_iff]
  simp only [Bool.and_eq_true, decide_eq_true_eq, beq_iff_eq]
  constructor
  · rintro ⟨y, hy, h0⟩
    obtain ⟨t, ht, rfl⟩ := mem_nth hy
    have h1 : ¬ t < i := fun e => by have := p.lo t e; omega
    have h2 : ¬ i < t := fun e => by
      have h3 := nth_asc ha e ht
      have h4 := h.lt_zero h3 h0
      exact p.hi i (Nat.le_refl _) (by omega) h4
    obtain rfl : t = i := by omega
    exact ⟨ht, h0⟩
  · rintro ⟨hi, h0⟩
    exact ⟨_, nth_mem hi, h0⟩
theorem Place.ins (h : CmpOk c) (p : Place c xs x i) (hn : Go.Proofs.Ytgmchedfgdgenaa.isIn c x xs = false) (ha : Asc c xs) : ins c x xs = xs.take i ++ x :: xs.drop i := by
  have hne : ∀ y, y ∈ xs → c y x ≠ 0 := fun y hy h0 => by
    have := isIn_iff.2 ⟨y, hy, h0⟩
    rw [hn] at this; cases this
  have hasc : Asc c (xs.take i ++ x :: xs.drop i) := by
    have hx : (xs.take i ++ xs.drop i).Pairwise (fun a b => c a b < 0) := by rw [List.take_append_drop]; exact ha
    obtain ⟨h1, h2, h3⟩ := List.pairwise_append.1 hx
    refine List.pairwise_append.2 ⟨h1, List.pairwise_cons.2 ⟨fun u hu => ?_, h2⟩, fun u hu v hv => ?_⟩
    · obtain ⟨t, ht, rfl⟩ := mem_nth hu
      simp only [List.length_drop] at ht
      rw [nth_drop]
      have h4 := p.hi (i + t) (by omega) (by omega)
      have h5 := hne _ (nth_mem (show i + t < xs.length by omega))
      have := h.flip (nth xs (i + t)) x
      omega
    · rcases List.mem_cons.1 hv with rfl | hv
      · obtain ⟨t, ht, rfl⟩ := mem_nth hu
        simp only [List.length_take] at ht
        rw [nth_take (by omega)]
        exact p.lo t (by omega)
      · exact h3 u hu v hv
  refine Asc.ext h (asc_ins h ha) hasc fun z => ?_
  rw [mem_ins h ha, hn, List.mem_append, List.mem_cons]
  have hm : z ∈ xs ↔ z ∈ xs.take i ∨ z ∈ xs.drop i := by rw [← List.mem_append, List.take_append_drop]
  rw [hm]
  constructor
  · rintro ((h1 | h1) | h1)
    · exact .inl h1
    · exact .inr (.inr h1)
    · exact .inr (.inl h1.1)
  · rintro (h1 | h1 | h1)
    · exact .inl (.inl h1)
    · exact .inr ⟨h1, rfl⟩
    · exact .inl (.inr h1)
/-- the list without the thing that is equal -/
def rem (c : α → α → Int) (x : α) (l : List α) : List α := l.filter (fun y => !(c y x == 0))
omit [Inhabited α] in
theorem asc_rem (ha : Asc c xs) : Asc c (rem c x xs) := List.Pairwise.sublist List.filter_sublist ha
omit [Inhabited α] in
theorem mem_rem {z : α} : z ∈ rem c x xs ↔ z ∈ xs ∧ c z x ≠ 0 := by simp [rem]
theorem Place.rem (h : CmpOk c) (p : Place c xs x i) (hn : Go.Proofs.Ytgmchedfgdgenaa.isIn c x xs = true) (ha : Asc c xs) : i < xs.length ∧ rem c x xs = xs.take i ++ xs.drop (i + 1) := by
  rw [p.isIn h ha] at hn
  simp only [Bool.and_eq_true, decide_eq_true_eq, beq_iff_eq] at hn
  obtain ⟨hi, h0⟩ := hn
  refine ⟨hi, ?_⟩
  have hsub : (xs.take i ++ xs.drop (i + 1)).Sublist xs := by
    conv => rhs; rw [← List.take_append_drop i xs]
    refine List.Sublist.append_left ?_ _
    rw [List.drop_eq_getElem_cons hi]
    exact List.sublist_cons_self _ _
  refine Asc.ext h (asc_rem ha) (List.Pairwise.sublist hsub ha) fun z => ?_
  rw [mem_rem]
  constructor
  · rintro ⟨hz, hne⟩
    obtain ⟨t, ht, rfl⟩ := mem_nth hz
    rw [List.mem_append]
    by_cases e : t < i
    · left
      rw [← nth_take e]
      exact nth_mem (by simp; omega)
    · by_cases e2 : t = i
      · subst e2; exact absurd h0 hne
      · right
        rw [show nth xs t = nth (xs.drop (i + 1)) (t - (i + 1)) from by rw [nth_drop]; congr 1; omega]
        exact nth_mem (by simp; omega)
  · intro hz
    refine ⟨hsub.subset hz, ?_⟩
    rcases List.mem_append.1 hz with hz | hz
    · obtain ⟨t, ht, rfl⟩ := mem_nth hz
      simp only [List.length_take] at ht
      rw [nth_take (by omega)]
      have := p.lo t (by omega); omega
    · obtain ⟨t, ht, rfl⟩ := mem_nth hz
      simp only [List.length_drop] at ht
      rw [nth_drop]
      intro h1
      have h2 := nth_asc ha (show i < i + 1 + t by omega) (by omega)
      have h3 := h.lt_zero h2 h1
      omega
end
end Go.Proofs.Ytgmchedfgdgenaa
/- cmp.Compare, cmp.Less, isNaN at int: what they return. No condition. -/
namespace Go.Proofs.Ytgmchedfgdgenaa
open Go.RowKit

def cmpI (a b : Int) : Int := if a < b then -1 else if b < a then 1 else 0
theorem cmpI_neg (a b : Int) : (cmpI a b < 0) = (a < b) := by
  unfold cmpI; split <;> (try split) <;> simp <;> omega
theorem cmpI_zero (a b : Int) : (cmpI a b = 0) = (a = b) := by
  unfold cmpI; split <;> (try split) <;> simp <;> omega

theorem cmpokI : CmpOk cmpI := by
  refine ⟨⟨fun x => ?_, fun {x y z} => ?_, fun {x z} => ?_⟩, fun a b => ?_⟩
  · rw [cmpI_neg]; omega
  · simp only [cmpI_neg]; omega
  · simp only [cmpI_neg]; omega
  · rw [cmpI_neg]; unfold cmpI; split <;> (try split) <;> simp <;> omega
theorem nan_i (a : Int) (w : World) : Calls Try.prog 88 #[.int .i64 a] w fun e w' => e = .returned (.bool false) ∧ w = w' := by
  have h : (a != a) = false := by simp
  go_enter Try.func88, Try.ntmps88
  go_wp2
  go_ret
  exact ⟨rfl, rfl⟩
theorem snan_i (a : Int) (w : World) : Calls Try.prog 90 #[.int .i64 a] w fun e w' => e = .returned (.bool false) ∧ w = w' := by
  have h : (a != a) = false := by simp
  go_enter Try.func90, Try.ntmps90
  go_wp2
  go_ret
  exact ⟨rfl, rfl⟩
theorem cmp_i (a b : Int) (w : World) : Calls Try.prog 63 #[.int .i64 a, .int .i64 b] w fun e w' => e = .returned (.int .i64 (cmpI a b)) ∧ w = w' := by
  go_enter Try.func63, Try.ntmps63
  go_wp2_with (go_at_call 88; refine (nan_i _ _).mono ?_; rintro e w' ⟨rfl, rfl⟩)
  all_goals go_ret
  all_goals refine ⟨ret_int ?_, rfl⟩
  · have h : a < b := by assumption
    simp [cmpI, h]
  · have h : ¬ a < b := by omega
    have h' : b < a := by assumption
    simp [cmpI, h, h']
  · have h : ¬ a < b := by omega
    have h' : ¬ b < a := by omega
    simp [cmpI, h, h']
theorem less_i (a b : Int) (w : World) : Calls Try.prog 89 #[.int .i64 a, .int .i64 b] w fun e w' => e = .returned (.bool (decide (a < b))) ∧ w = w' := by
  go_enter Try.func89, Try.ntmps89
  go_wp2_with (go_at_call 88; refine (nan_i _ _).mono ?_; rintro e w' ⟨rfl, rfl⟩)
  go_ret
  exact ⟨rfl, rfl⟩
/-- less, as the comparison has it -/
def ltbI (a b : Int) : Bool := decide (cmpI a b < 0)
theorem ltb_i (a b : Int) (w : World) : Calls Try.prog 89 #[.int .i64 a, .int .i64 b] w fun e w' => e = .returned (.bool (ltbI a b)) ∧ w = w' :=
  (less_i a b w).mono fun _ _ h => ⟨by rw [h.1, ltbI]; simp only [cmpI_neg], h.2⟩
end Go.Proofs.Ytgmchedfgdgenaa
/- Plain facts on what of two rising lists is chosen, step by step, without any program. No condition beyond that the comparison compares. -/
namespace Go.Proofs.Ytgmchedfgdgenaa

section
variable {α : Type} [Inhabited α] {c : α → α → Int}

/-- what of two sets is wanted of a thing of the first one -/
def want (c : α → α → Int) (l b : Bool) (o : List α) (z : α) : Bool := if isIn c z o then b else l
/-- chosen out of the first i things of s and the first k of o -/
structure ChosenAt (c : α → α → Int) (l b r : Bool) (s o : List α) (i k : Nat) (out : List α) : Prop where
  le1 : i ≤ s.length
  le2 : k ≤ o.length
  c1 : ∀ t u, t < i → k ≤ u → u < o.length → c (nth s t) (nth o u) < 0
  c2 : ∀ t u, i ≤ t → t < s.length → u < k → c (nth o u) (nth s t) < 0
  asc : Asc c out
  mem : ∀ z, z ∈ out ↔ (∃ t, t < i ∧ nth s t = z ∧ want c l b o z = true) ∨ (∃ u, u < k ∧ nth o u = z ∧ isIn c z s = false ∧ r = true)
  len : out.length ≤ i + k

/-- chosen, whole -/
structure Chosen (c : α → α → Int) (l b r : Bool) (s o out : List α) : Prop where
  asc : Asc c out
  mem : ∀ z, z ∈ out ↔ (z ∈ s ∧ want c l b o z = true) ∨ (z ∈ o ∧ isIn c z s = false ∧ r = true)
  len : out.length ≤ s.length + o.length

theorem ChosenAt.start (l b r : Bool) (s o : List α) : ChosenAt c l b r s o 0 0 [] :=
  ⟨Nat.zero_le _, Nat.zero_le _, fun t u h => by omega, fun t u _ _ h => by omega, List.Pairwise.nil, fun z => by simp, by simp⟩
theorem ChosenAt.done {l b r : Bool} {s o out : List α} (h : ChosenAt c l b r s o s.length o.length out) : Chosen c l b r s o out := by
  refine ⟨h.asc, fun z => ?_, h.len⟩
  rw [h.mem]
  constructor
  · rintro (⟨t, ht, e, hw⟩ | ⟨u, hu, e, hw⟩)
    · exact .inl ⟨by rw [← e]; exact nth_mem ht, hw⟩
    · exact .inr ⟨by rw [← e]; exact nth_mem hu, hw⟩
  · rintro (⟨hz, hw⟩ | ⟨hz, hw⟩)
    · obtain ⟨t, ht, e⟩ := mem_nth hz
      exact .inl ⟨t, ht, e, hw⟩
    · obtain ⟨u, hu, e⟩ := mem_nth hz
      exact .inr ⟨u, hu, e, hw⟩
omit [Inhabited α] in
theorem asc_snoc {out : List α} {x : α} (h : Asc c out) (hx : ∀ z, z ∈ out → c z x < 0) : Asc c (out ++ [x]) :=
  List.pairwise_append.2 ⟨h, List.pairwise_singleton _ _, fun z hz y hy => by rw [List.mem_singleton.1 hy]; exact hx z hz⟩

section
variable {l b r : Bool} {s o out : List α} {i k : Nat}
/-- all that is chosen is before the next things -/
theorem ChosenAt.before1 (h : ChosenAt c l b r s o i k out) (hs : Asc c s) (hi : i < s.length) : ∀ z, z ∈ out → c z (nth s i) < 0 := by
  intro z hz
  rcases (h.mem z).1 hz with ⟨t, ht, e, _⟩ | ⟨u, hu, e, _⟩
  · rw [← e]; exact nth_asc hs ht hi
  · rw [← e]; exact h.c2 i u (Nat.le_refl _) hi hu
theorem ChosenAt.before2 (h : ChosenAt c l b r s o i k out) (ho : Asc c o) (hk : k < o.length) : ∀ z, z ∈ out → c z (nth o k) < 0 := by
  intro z hz
  rcases (h.mem z).1 hz with ⟨t, ht, e, _⟩ | ⟨u, hu, e, _⟩
  · rw [← e]; exact h.c1 t k ht (Nat.le_refl _) hk
  · rw [← e]; exact nth_asc ho hu hk
/-- the next thing of s is not in o -/
theorem ChosenAt.left (hc : CmpOk c) (h : ChosenAt c l b r s o i k out) (hs : Asc c s) (ho : Asc c o) (hi : i < s.length) (hlt : k < o.length → c (nth s i) (nth o k) < 0) :
    ChosenAt c l b r s o (i + 1) k (if l then out ++ [nth s i] else out) := by
  have hall : ∀ u, k ≤ u → u < o.length → c (nth s i) (nth o u) < 0 := by
    intro u hu hu2
    have h1 := hlt (by omega)
    by_cases e : u = k
    · rw [e]; exact h1
    · exact hc.lt_trans h1 (nth_asc ho (by omega) hu2)
  have hnin : isIn c (nth s i) o = false := by
    rw [← Bool.not_eq_true, isIn_iff]
    rintro ⟨y, hy, h0⟩
    obtain ⟨u, hu, rfl⟩ := mem_nth hy
    by_cases e : u < k
    · have := h.c2 i u (Nat.le_refl _) hi e; omega
    · have h1 := hall u (by omega) hu
      have := hc.flip (nth o u) (nth s i); omega
  have hw : want c l b o (nth s i) = l := by unfold want; rw [hnin]; rfl
  refine ⟨hi, h.le2, fun t u ht hu hu2 => ?_, fun t u ht ht2 hu => h.c2 t u (by omega) ht2 hu, ?_, fun z => ?_, ?_⟩
  · by_cases e : t = i
    · subst e; exact hall u hu hu2
    · exact h.c1 t u (by omega) hu hu2
  · split
    · exact asc_snoc h.asc (h.before1 hs hi)
    · exact h.asc
  · have h0 : (∃ t, t < i + 1 ∧ nth s t = z ∧ want c l b o z = true) ↔ (∃ t, t < i ∧ nth s t = z ∧ want c l b o z = true) ∨ (nth s i = z ∧ l = true) := by
      constructor
      · rintro ⟨t, ht, e, hz⟩
        by_cases e2 : t = i
        · subst e2; right; refine ⟨e, ?_⟩; rw [← e, hw] at hz; exact hz
        · left; exact ⟨t, by omega, e, hz⟩
      · rintro (⟨t, ht, e, hz⟩ | ⟨e, hz⟩)
        · exact ⟨t, by omega, e, hz⟩
        · exact ⟨i, by omega, e, by rw [← e, hw]; exact hz⟩
    rw [h0]
    cases l
    · simp [h.mem z]
    · simp only [if_true, List.mem_append, List.mem_singleton, h.mem z, and_true]
      constructor
      · rintro ((h1 | h1) | h1)
        · exact .inl (.inl h1)
        · exact .inr h1
        · exact .inl (.inr h1.symm)
      · rintro ((h1 | h1) | h1)
        · exact .inl (.inl h1)
        · exact .inr h1.symm
        · exact .inl (.inr h1)
  · have := h.len; split <;> (simp; omega)
/-- the next thing of o is not in s -/
theorem ChosenAt.right (hc : CmpOk c) (h : ChosenAt c l b r s o i k out) (hs : Asc c s) (ho : Asc c o) (hk : k < o.length) (hlt : i < s.length → c (nth o k) (nth s i) < 0) :
    ChosenAt c l b r s o i (k + 1) (if r then out ++ [nth o k] else out) := by
  have hall : ∀ t, i ≤ t → t < s.length → c (nth o k) (nth s t) < 0 := by
    intro t ht ht2
    have h1 := hlt (by omega)
    by_cases e : t = i
    · rw [e]; exact h1
    · exact hc.lt_trans h1 (nth_asc hs (by omega) ht2)
  have hnin : isIn c (nth o k) s = false := by
    rw [← Bool.not_eq_true, isIn_iff]
    rintro ⟨y, hy, h0⟩
    obtain ⟨t, ht, rfl⟩ := mem_nth hy
    by_cases e : t < i
    · have := h.c1 t k e (Nat.le_refl _) hk; omega
    · have h1 := hall t (by omega) ht
      have := hc.flip (nth s t) (nth o k); omega
  refine ⟨h.le1, hk, fun t u ht hu hu2 => h.c1 t u ht (by omega) hu2, fun t u ht ht2 hu => ?_, ?_, fun z => ?_, ?_⟩
  · by_cases e : u = k
    · subst e; exact hall t ht ht2
    · exact h.c2 t u ht ht2 (by omega)
  · split
    · exact asc_snoc h.asc (h.before2 ho hk)
    · exact h.asc
  · have h0 : (∃ u, u < k + 1 ∧ nth o u = z ∧ isIn c z s = false ∧ r = true) ↔ (∃ u, u < k ∧ nth o u = z ∧ isIn c z s = false ∧ r = true) ∨ (nth o k = z ∧ r = true) := by
      constructor
      · rintro ⟨t, ht, e, hz⟩
        by_cases e2 : t = k
        · subst e2; right; exact ⟨e, hz.2⟩
        · left; exact ⟨t, by omega, e, hz⟩
      · rintro (⟨t, ht, e, hz⟩ | ⟨e, hz⟩)
        · exact ⟨t, by omega, e, hz⟩
        · exact ⟨k, by omega, e, by rw [← e]; exact hnin, hz⟩
    rw [h0]
    cases r
    · simp [h.mem z]
    · simp only [if_true, List.mem_append, List.mem_singleton, h.mem z, and_true]
      constructor
      · rintro ((h1 | h1) | h1)
        · exact .inl h1
        · exact .inr (.inl h1)
        · exact .inr (.inr h1.symm)
      · rintro (h1 | h1 | h1)
        · exact .inl (.inl h1)
        · exact .inl (.inr h1)
        · exact .inr h1.symm
  · have := h.len; split <;> (simp; omega)
/-- the next things are equal -/
theorem ChosenAt.both (hc : CmpOk c) (h : ChosenAt c l b r s o i k out) (hs : Asc c s) (ho : Asc c o) (hi : i < s.length) (hk : k < o.length) (h0 : c (nth s i) (nth o k) = 0) :
    ChosenAt c l b r s o (i + 1) (k + 1) (if b then out ++ [nth s i] else out) := by
  have h0' := hc.zero_symm h0
  have hin : isIn c (nth s i) o = true := isIn_iff.2 ⟨_, nth_mem hk, h0'⟩
  have hin2 : isIn c (nth o k) s = true := isIn_iff.2 ⟨_, nth_mem hi, h0⟩
  have hw : want c l b o (nth s i) = b := by unfold want; rw [hin]; rfl
  refine ⟨hi, hk, fun t u ht hu hu2 => ?_, fun t u ht ht2 hu => ?_, ?_, fun z => ?_, ?_⟩
  · by_cases e : t = i
    · subst e; exact hc.zero_lt h0 (nth_asc ho (by omega) hu2)
    · exact h.c1 t u (by omega) (by omega) hu2
  · by_cases e : u = k
    · subst e; exact hc.zero_lt h0' (nth_asc hs (by omega) ht2)
    · exact h.c2 t u (by omega) ht2 (by omega)
  · split
    · exact asc_snoc h.asc (h.before1 hs hi)
    · exact h.asc
  · have e1 : (∃ t, t < i + 1 ∧ nth s t = z ∧ want c l b o z = true) ↔ (∃ t, t < i ∧ nth s t = z ∧ want c l b o z = true) ∨ (nth s i = z ∧ b = true) := by
      constructor
      · rintro ⟨t, ht, e, hz⟩
        by_cases e2 : t = i
        · subst e2; right; refine ⟨e, ?_⟩; rw [← e, hw] at hz; exact hz
        · left; exact ⟨t, by omega, e, hz⟩
      · rintro (⟨t, ht, e, hz⟩ | ⟨e, hz⟩)
        · exact ⟨t, by omega, e, hz⟩
        · exact ⟨i, by omega, e, by rw [← e, hw]; exact hz⟩
    have e2 : (∃ u, u < k + 1 ∧ nth o u = z ∧ isIn c z s = false ∧ r = true) ↔ (∃ u, u < k ∧ nth o u = z ∧ isIn c z s = false ∧ r = true) := by
      constructor
      · rintro ⟨t, ht, e, hz⟩
        by_cases e2 : t = k
        · subst e2; rw [← e, hin2] at hz; exact absurd hz.1 (by simp)
        · exact ⟨t, by omega, e, hz⟩
      · rintro ⟨t, ht, e, hz⟩
        exact ⟨t, by omega, e, hz⟩
    rw [e1, e2]
    cases b
    · simp [h.mem z]
    · simp only [if_true, List.mem_append, List.mem_singleton, h.mem z, and_true]
      constructor
      · rintro ((h1 | h1) | h1)
        · exact .inl (.inl h1)
        · exact .inr h1
        · exact .inl (.inr h1.symm)
      · rintro ((h1 | h1) | h1)
        · exact .inl (.inl h1)
        · exact .inr h1.symm
        · exact .inl (.inr h1)
  · have := h.len; split <;> (simp; omega)
end
end
end Go.Proofs.Ytgmchedfgdgenaa
/- Plain facts on rows into which cells are laid one after the other. No condition beyond bounds. -/
namespace Go.Proofs.Ytgmchedfgdgenaa
open Go.RowKit

theorem one_cells {w : World} {vb : Nat} {v : Value} (h : w.cell? ⟨vb, 0, none⟩ = some v) : ∀ (j : Nat) (u : Value), [v][j]? = some u → w.cell? ⟨vb, 0 + j, none⟩ = some u
  | 0, u, hu => by
    obtain rfl : v = u := by simpa using hu
    exact h
  | j + 1, u, hu => by simp at hu
/-- a list with things laid over it from a place on -/
def lay {α : Type} (cur : List α) : Nat → List α → List α
  | _, [] => cur
  | o, v :: r => lay (cur.set o v) (o + 1) r
theorem lay_eq {α : Type} : ∀ (vs cur : List α) (o : Nat), o + vs.length ≤ cur.length → lay cur o vs = cur.take o ++ (vs ++ cur.drop (o + vs.length))
  | [], cur, o, h => by simp [lay]
  | v :: r, cur, o, h => by
    simp only [List.length_cons] at h
    rw [lay, lay_eq r (cur.set o v) (o + 1) (by simp; omega)]
    have ho : o < cur.length := by omega
    have e1 : (cur.set o v).take (o + 1) = cur.take o ++ [v] := by
      rw [List.take_add_one, List.take_set_of_le (Nat.le_refl _)]
      simp [ho]
    have e2 : (cur.set o v).drop (o + 1 + r.length) = cur.drop (o + (r.length + 1)) := by
      rw [List.drop_set_of_lt (by omega)]
      congr 1; omega
    rw [e1, e2]
    simp
theorem RowC.lay {g : Nat} {e : TypeId} : ∀ (vs : List Value) (o : Nat) (w : World) (cur : List Value), RowC w g e cur → RowC (w.setCells g o vs) g e (lay cur o vs)
  | [], _, _, _, h => h
  | v :: r, o, w, cur, h => by
    rw [World.setCells, Go.Proofs.Ytgmchedfgdgenaa.lay]
    exact RowC.lay r (o + 1) _ _ (h.put o v)
/-- a row shifted by one in place -/
theorem lay_shift {X rest : List Value} {v : Value} {i n : Nat} (hn : X.length = n) (hi : i < n) (hr : 1 ≤ rest.length) :
    lay (lay (X ++ rest) (0 + (i + 1)) (X.drop i)) (0 + i) [v] = (X.take i ++ v :: X.drop i) ++ rest.drop 1 := by
  rw [Nat.zero_add, Nat.zero_add, lay_eq (X.drop i) (X ++ rest) (i + 1) (by simp; omega)]
  have e1 : (X ++ rest).drop (i + 1 + (X.drop i).length) = rest.drop 1 := by
    rw [show i + 1 + (X.drop i).length = X.length + 1 by simp; omega, List.drop_append]
    simp
  rw [e1, lay_eq _ _ _ (by simp; omega)]
  have e2 : ((X ++ rest).take (i + 1) ++ (X.drop i ++ rest.drop 1)).take i = X.take i := by
    rw [List.take_append_of_le_length (by simp; omega), List.take_take, Nat.min_eq_left (by omega), List.take_append_of_le_length (by omega)]
  have e3 : ((X ++ rest).take (i + 1) ++ (X.drop i ++ rest.drop 1)).drop (i + [v].length) = X.drop i ++ rest.drop 1 := by
    have hti : ((X ++ rest).take (i + 1)).length = i + 1 := by simp; omega
    rw [List.drop_append, List.drop_eq_nil_of_le (by rw [hti]; simp), hti]
    simp
  rw [e2, e3]; simp
/-- a new row filled -/
theorem lay_grow {X Z Y : List Value} {v : Value} {i n : Nat} (hn : X.length = n) (hi : i < n) (hZ : Z.length = n + 1 - i) :
    lay (lay (X.take i ++ Z ++ Y) i [v]) (i + 1) (X.drop i) = (X.take i ++ v :: X.drop i) ++ Y := by
  rw [lay_eq [v] _ i (by simp; omega)]
  have e1 : (X.take i ++ Z ++ Y).take i = X.take i := by
    rw [List.append_assoc, List.take_append_of_le_length (by simp; omega), List.take_take, Nat.min_self]
  rw [e1, lay_eq _ _ _ (by simp; omega)]
  have hti : (X.take i).length = i := by simp; omega
  have e2 : (X.take i ++ ([v] ++ (X.take i ++ Z ++ Y).drop (i + [v].length))).take (i + 1) = X.take i ++ [v] := by
    rw [List.take_append, hti, List.take_of_length_le (by omega)]
    simp
  have e3 : (X.take i ++ ([v] ++ (X.take i ++ Z ++ Y).drop (i + [v].length))).drop (i + 1 + (X.drop i).length) = Y := by
    rw [List.drop_append, List.drop_eq_nil_of_le (by simp; omega), hti, List.nil_append, List.drop_append, List.drop_eq_nil_of_le (by simp; omega), List.nil_append, List.drop_drop, List.drop_append, List.drop_eq_nil_of_le (by simp; omega),
      List.nil_append]
    rw [show i + [v].length + (i + 1 + (X.drop i).length - i - [v].length) - (X.take i ++ Z).length = 0 by simp; omega]
    rfl
  rw [e2, e3]; simp
/-- an equal one is in: the list as it was -/
theorem ins_in {α : Type} {c : α → α → Int} (h : CmpOk c) {x : α} : ∀ {l : List α}, Asc c l → isIn c x l = true → ins c x l = l
  | [], _, hi => by simp [isIn] at hi
  | y :: l, ha, hi => by
    obtain ⟨hy, hl⟩ := List.pairwise_cons.1 ha
    unfold ins
    by_cases h1 : c x y < 0
    · exfalso
      obtain ⟨u, hu, h2⟩ := isIn_iff.1 hi
      rcases List.mem_cons.1 hu with rfl | hu
      · have := h.zero_symm h2; omega
      · have h3 := h.lt_trans h1 (hy u hu)
        have := h.zero_symm h2; omega
    · rw [if_neg h1]
      by_cases h2 : c x y = 0
      · rw [if_pos h2]
      · rw [if_neg h2]
        have hyx : ¬ c y x = 0 := fun e => h2 (h.zero_symm e)
        have hin : isIn c x l = true := by simpa [isIn, hyx] using hi
        rw [ins_in h hl hin]
end Go.Proofs.Ytgmchedfgdgenaa
/- The small callees of slices.SortStableFunc at int, walked: swapRangeCmpFunc, rotateCmpFunc, insertionSortCmpFunc, over a row that the call owns. Conditions: the ranges lie in the row. -/
namespace Go.Proofs.Ytgmchedfgdgenaa
open Go.RowKit
namespace SoI

abbrev Z := Int × Nat
def enc (z : Z) : Value := Value.int .i64 z.1
def lt (a b : Int) : Prop := cmpI a b < 0

theorem cmp_q (a b : Int) (w : World) : Calls Try.prog 63 #[Value.int .i64 a, Value.int .i64 b] w fun e w' => e = .returned (.int .i64 (cmpI a b)) ∧ w' = w :=
  (cmp_i a b w).mono fun _ _ h => ⟨h.1, h.2.symm⟩

theorem swap_range (g n c : Nat) (ai bi mi : Int) (a b m : Nat) (f : Value) (xs : List Z) (rest : List Value) (w : World) (ea : ai = a) (eb : bi = b) (em : mi = m) (hr : RowAt enc w g 3 xs rest)
    (hn : xs.length = n) (hbig : n ≤ 140737488351232) (hab : a + m ≤ b) (hb : b + m ≤ n) :
    Calls Try.prog 99 #[.slice (some ⟨g, 0, none⟩) n c, .int .i64 ai, .int .i64 bi, .int .i64 mi, f] w fun e w' =>
      e = .returned (.tuple #[]) ∧ RowAt enc w' g 3 (swapR xs a b m) rest ∧ w.grownBy w' (some g) := by
  subst ea eb em
  have HN := Lib.hid hn; clear hn
  go_enter Try.func99, Try.ntmps99
  go_wp2
  go_loopw [10] (fun i wr => ∃ k : Nat, k ≤ m ∧ i = .int .i64 k ∧ RowAt enc wr g 3 (swapR xs a b k) rest ∧ w.grownBy wr (some g)) (fun i _ => m - (intOf i).toNat)
  case atStart => exact ⟨0, Nat.zero_le _, rfl, hr, grown_refl _ _⟩
  case round =>
    obtain ⟨k, hk, rfl, hrow, hg⟩ := hrel
    by_cases hlt : k < m
    · have hl : n ≤ (swapR xs a b k).length := by rw [swapR_length, HN.out]; omega
      generalize hys : swapR xs a b k = ys at hrow hl
      have HY := Lib.hid hys; clear hys
      have c1 : wr.cell? ⟨g, a + k, none⟩ = some (Value.int .i64 (nth ys (a + k)).1) := hrow.cell (by omega)
      have c2 : wr.cell? ⟨g, b + k, none⟩ = some (Value.int .i64 (nth ys (b + k)).1) := hrow.cell (by omega)
      have f1 := hrow.frozen (a + k)
      have f2 := hrow.frozen (b + k)
      go_wp2
      go_region
      go_wp2
      refine ⟨⟨k + 1, by omega, by go_num, ?_, ?_⟩, by simp [intOf]; omega⟩
      · have h1 := (hrow.set (j := a + k) (by omega) (nth ys (b + k))).set (j := b + k) (by simp; omega) (nth ys (a + k))
        rw [swapR, HY.out]
        exact h1.drew
      · exact grown_drew (grown_setCell (grown_setCell hg _ _) _ _)
    · obtain rfl : k = m := by omega
      go_wp2
      go_end0
      exact ⟨rfl, hrow, hg⟩

theorem rotate (g n c : Nat) (ai mi bi : Int) (a m b : Nat) (f : Value) (P L R Q : List Z) (rest : List Value) (w : World) (ea : ai = a) (em : mi = m) (eb : bi = b) (hr : RowAt enc w g 3 (P ++ L ++ R ++ Q) rest)
    (hn : (P ++ L ++ R ++ Q).length = n) (hbig : n ≤ 140737488351232) (ha : P.length = a) (hm : P.length + L.length = m) (hb : P.length + L.length + R.length = b)
    (hL : 0 < L.length) (hR : 0 < R.length) :
    Calls Try.prog 98 #[.slice (some ⟨g, 0, none⟩) n c, .int .i64 ai, .int .i64 mi, .int .i64 bi, f] w fun e w' =>
      e = .returned (.tuple #[]) ∧ RowAt enc w' g 3 (P ++ R ++ L ++ Q) rest ∧ w.grownBy w' (some g) := by
  subst ea em eb
  have hbn : b ≤ n := by simp at hn; omega
  have ham : a ≤ m := by omega
  have hmb : m ≤ b := by omega
  have HA := Lib.hid (And.intro ha (And.intro hm hb)); clear ha hm hb
  have HN := Lib.hid hn; clear hn
  go_enter Try.func98, Try.ntmps98
  go_wp2
  go_loopw [10, 11] (fun i j wr => ∃ P' L' R' Q' : List Z, i = .int .i64 (L'.length : Nat) ∧ j = .int .i64 (R'.length : Nat) ∧ 0 < L'.length ∧ 0 < R'.length ∧
      P'.length + L'.length = m ∧ P' ++ R' ++ L' ++ Q' = P ++ R ++ L ++ Q ∧ RowAt enc wr g 3 (P' ++ L' ++ R' ++ Q') rest ∧ w.grownBy wr (some g))
    (fun i j _ => (intOf i).toNat + (intOf j).toNat)
  case atStart =>
    refine ⟨P, L, R, Q, ?_, ?_, hL, hR, HA.out.2.1, rfl, hr, grown_refl _ _⟩
    · have := HA.out.2.1; have := HA.out.1; congr 1; omega
    · have := HA.out.2.1; have := HA.out.2.2; congr 1; omega
  case round =>
    obtain ⟨P', L', R', Q', rfl, rfl, hL', hR', hm', htgt, hrow, hg⟩ := hrel
    have hlen : P'.length + L'.length + R'.length + Q'.length = n := by
      have := congrArg List.length htgt
      have h2 := HN.out
      simp at this h2; omega
    generalize hi : L'.length = i at hL' hm' hlen ⊢
    generalize hj : R'.length = j at hR' hlen ⊢
    generalize hp : P'.length = p at hm' hlen
    have hpm : p + i ≤ m := by omega
    have hpm' : m ≤ p + i := by omega
    have hlen' : p + i + j ≤ n := by omega
    have HI := Lib.hid (And.intro hi (And.intro hj (And.intro hp (And.intro hm' hlen)))); clear hi hj hp hm' hlen
    have HT := Lib.hid htgt; clear htgt
    by_cases hij : i = j
    · subst hij
      have he : ((i : Int) != (i : Int)) = false := by simp
      go_wp2_with fail
      refine (swap_range g n c _ _ _ (m - i) m i f _ rest _ (by omega) (by omega) (by omega) hrow (by have := HI.out; simp; omega) hbig (by omega) (by omega)).mono ?_
      rintro e w' ⟨rfl, hrow', hg'⟩
      go_wp2
      go_end0
      refine ⟨rfl, ?_, grown_trans hg hg'⟩
      have h := swapR_split P' L' [] R' Q' (by rw [HI.out.1, HI.out.2.1])
      simp only [List.append_nil, List.length_nil, Nat.add_zero] at h
      rw [HI.out.1, HI.out.2.2.1] at h
      rw [show m - i = p from by omega, show m = p + i from by omega, h, HT.out] at hrow'
      exact hrow'
    · have he : ((i : Int) != (j : Int)) = true := by rw [bne_iff_ne]; omega
      by_cases hgt : j < i
      · go_wp2_with fail
        refine (swap_range g n c _ _ _ (m - i) m j f _ rest _ (by omega) (by omega) (by omega) hrow (by have := HI.out; simp; omega) hbig (by omega) (by omega)).mono ?_
        rintro e w' ⟨rfl, hrow', hg'⟩
        go_wp2
        refine ⟨⟨P' ++ R', L'.drop j, L'.take j, Q', ?_, ?_, ?_, ?_, ?_, ?_, ?_, grown_trans hg hg'⟩, ?_⟩
        · have := HI.out.1; simp; omega
        · have := HI.out.1; simp; omega
        · have := HI.out.1; simp; omega
        · have := HI.out.1; simp; omega
        · have := HI.out; simp; omega
        · rw [← HT.out]; simp only [List.append_assoc]; rw [← List.append_assoc (L'.take j), List.take_append_drop]
        · have h := swapR_split P' (L'.take j) (L'.drop j) R' Q' (by have := HI.out; simp; omega)
          rw [List.append_assoc P' (L'.take j), List.take_append_drop] at h
          have hl : (L'.take j).length = j := by have := HI.out.1; simp; omega
          have hl2 : (L'.drop j).length = i - j := by have := HI.out.1; simp; omega
          rw [hl, hl2, HI.out.2.2.1] at h
          rw [show m - i = p from by omega, show m = p + j + (i - j) from by omega, h] at hrow'
          simpa only [List.append_assoc] using hrow'
        · simp [intOf]; omega
      · go_wp2_with fail
        refine (swap_range g n c _ _ _ (m - i) (m + j - i) i f _ rest _ (by omega) (by omega) (by omega) hrow (by have := HI.out; simp; omega) hbig (by omega) (by omega)).mono ?_
        rintro e w' ⟨rfl, hrow', hg'⟩
        go_wp2
        refine ⟨⟨P', R'.drop (j - i), R'.take (j - i), L' ++ Q', ?_, ?_, ?_, ?_, ?_, ?_, ?_, grown_trans hg hg'⟩, ?_⟩
        · have := HI.out; simp; omega
        · have := HI.out; simp; omega
        · have := HI.out; simp; omega
        · have := HI.out; simp; omega
        · have := HI.out; simp; omega
        · rw [← HT.out]; simp only [List.append_assoc]; rw [← List.append_assoc (R'.take (j - i)), List.take_append_drop]
        · have h := swapR_split P' L' (R'.take (j - i)) (R'.drop (j - i)) Q' (by have := HI.out; simp; omega)
          have hl : (R'.take (j - i)).length = j - i := by have := HI.out; simp; omega
          rw [hl, HI.out.1, HI.out.2.2.1] at h
          rw [List.append_assoc (P' ++ L'), List.take_append_drop] at h
          rw [show m - i = p from by omega, show m + j - i = p + i + (j - i) from by omega, h] at hrow'
          simpa only [List.append_assoc] using hrow'
        · simp [intOf]; omega
theorem ahead_of_perm {L S : List Z} {k : Nat} (hu : Ups L) (hk : k < L.length) (hp : S.Perm (L.take k)) : ∀ y, y ∈ S → y.2 < (nth L k).2 := by
  intro y hy
  have h : Ups (L.take k ++ L.drop k) := by rw [List.take_append_drop]; exact hu
  refine (List.pairwise_append.1 h).2.2 y (hp.mem_iff.1 hy) _ ?_
  rw [nth_eq hk, List.drop_eq_getElem_cons hk]
  exact List.mem_cons_self

set_option maxHeartbeats 800000 in
theorem insertion (hs : Swo lt) (g n c : Nat) (ai bi : Int) (a b : Nat) (P L Q : List Z) (rest : List Value) (w : World) (ea : ai = a) (eb : bi = b) (hr : RowAt enc w g 3 (P ++ L ++ Q) rest)
    (hn : (P ++ L ++ Q).length = n) (hbig : n ≤ 140737488351232) (ha : P.length = a) (hb : P.length + L.length = b) (hu : Ups L) :
    Calls Try.prog 95 #[.slice (some ⟨g, 0, none⟩) n c, .int .i64 ai, .int .i64 bi, .func (.func 63) #[] #[]] w fun e w' =>
      e = .returned (.tuple #[]) ∧ (∃ S, S.Perm L ∧ Srt lt S ∧ RowAt enc w' g 3 (P ++ S ++ Q) rest) ∧ w.grownBy w' (some g) := by
  subst ea eb
  have hbn : b ≤ n := by simp at hn; omega
  have hab : a ≤ b := by omega
  have HA := Lib.hid (And.intro ha (And.intro hb hn)); clear ha hb hn
  go_enter Try.func95, Try.ntmps95
  go_wp2
  go_loopw [8] (fun i wr => ∃ (k : Nat) (S : List Z), i = .int .i64 ((a + k : Nat) : Int) ∧ 1 ≤ k ∧ (k ≤ L.length ∨ k = 1) ∧ S.Perm (L.take k) ∧ Srt lt S ∧
      RowAt enc wr g 3 (P ++ S ++ (L.drop k ++ Q)) rest ∧ w.grownBy wr (some g)) (fun i _ => b - (intOf i).toNat)
  case atStart =>
    refine ⟨1, L.take 1, by go_num, Nat.le_refl _, .inr rfl, List.Perm.refl _, ?_, ?_, grown_refl _ _⟩
    · rcases L with _ | ⟨x, L⟩
      · exact List.Pairwise.nil
      · simp [Srt]
    · rw [List.append_assoc P, ← List.append_assoc (L.take 1), List.take_append_drop, ← List.append_assoc]; exact hr
  case round =>
    obtain ⟨k, S, rfl, hk1, hkL, hperm, hsrt, hrow, hg⟩ := hrel
    have hkn : a + k ≤ n + 1 := by rcases hkL with h | h <;> (have := HA.out; omega)
    by_cases hlt : a + k < b
    · have hkl : k < L.length := by have := HA.out; omega
      have hah := ahead_of_perm hu hkl hperm
      have hSl : S.length = k := by rw [hperm.length_eq, List.length_take]; omega
      have HS := Lib.hid (And.intro hSl (And.intro hperm hsrt)); clear hSl hperm hsrt
      have HAH := Lib.hid hah; clear hah
      rw [List.drop_eq_getElem_cons hkl, ← nth_eq hkl] at hrow
      generalize hx : nth L k = x at hrow HAH
      have HX := Lib.hid hx; clear hx hkL
      go_wp2_with fail
      go_loopw [9] (fun j wr => ∃ (jj q : Nat) (S1 S2 : List Z), j = .int .i64 (jj : Nat) ∧ jj = a + q ∧ S1.length = q ∧ q ≤ k ∧ S1 ++ S2 = S ∧ (∀ y, y ∈ S2 → zlt lt x y) ∧
          RowAt enc wr g 3 (P ++ S1 ++ x :: S2 ++ (L.drop (k + 1) ++ Q)) rest ∧ w.grownBy wr (some g)) (fun j _ => (intOf j).toNat)
      case atStart => exact ⟨a + k, k, S, [], rfl, rfl, HS.out.1, Nat.le_refl _, by simp, by simp, by simpa using hrow, hg⟩
      case round =>
        obtain ⟨jj, q, S1, S2, rfl, hjj, hq, hqk, hS, hS2, hrow, hg⟩ := hrel
        rcases List.eq_nil_or_concat S1 with rfl | ⟨S1', y, rfl⟩
        · obtain rfl : q = 0 := by simpa using hq.symm
          have hd : decide ((a : Int) < (jj : Int)) = false := by simp; omega
          have hd' : decide (a < jj) = false := by simp; omega
          have hjn : jj ≤ n := by omega
          clear hjj hq
          go_wp2
          go_quiet (fail)
          go_wp2
          refine ⟨⟨k + 1, x :: S2, by go_num, by omega, .inl (by omega), ?_, ?_, ?_, grown_drewN hg _⟩, by simp [intOf]; omega⟩
          · rw [take_snoc hkl, HX.out]
            simp only [List.nil_append] at hS
            subst hS
            exact (List.Perm.cons x HS.out.2.1).trans (List.perm_append_comm (l₁ := [x]))
          · simp only [List.nil_append] at hS
            subst hS
            exact List.pairwise_cons.2 ⟨hS2, HS.out.2.2⟩
          · have := hrow.drewN nq; simpa using this
        · rw [List.concat_eq_append] at hq hS hrow
          obtain ⟨r, rfl⟩ : ∃ r, q = r + 1 := ⟨S1'.length, by simpa using hq.symm⟩
          have hr1 : S1'.length = r := by simpa using hq
          have hrow2 : RowAt enc wr g 3 ((P ++ S1') ++ y :: x :: (S2 ++ (L.drop (k + 1) ++ Q))) rest := by simpa using hrow
          have hlen : ((P ++ S1') ++ y :: x :: (S2 ++ (L.drop (k + 1) ++ Q))).length = n := by
            have h1 := HA.out.2.2
            have h2 := HS.out.1
            rw [← hS] at h2
            simp at h1 h2 ⊢
            omega
          have hpr : (P ++ S1').length = a + r := by have := HA.out.1; simp; omega
          have c1 : wr.cell? ⟨g, jj - 1, none⟩ = some (Value.int .i64 y.1) := by
            have h := hrow2.cell (j := jj - 1) (by rw [hlen]; omega)
            rwa [nth_mid (by omega)] at h
          have c2 : wr.cell? ⟨g, jj, none⟩ = some (Value.int .i64 x.1) := by
            have h := hrow2.cell (j := jj) (by rw [hlen]; omega)
            rwa [nth_mid1 (by omega)] at h
          have f1 := hrow2.frozen (jj - 1)
          have f2 := hrow2.frozen jj
          have hrn : jj < n := by omega
          have hja : a < jj := by omega
          have hja' : (a : Int) < (jj : Int) := by omega
          have HQ := Lib.hid (And.intro hq (And.intro hS (And.intro hr1 (And.intro hlen (And.intro hpr hjj))))); clear hq hS hr1 hlen hpr hrow hjj
          go_wp2
          go_quiet ((go_at_call 63; exact Calls.quiet_of_same (cmp_q _ _ _)))
          go_wp2
          · have hlt' : cmpI x.1 y.1 < 0 := by assumption
            go_region
            go_wp2
            refine ⟨⟨jj - 1, r, S1', y :: S2, by go_num, ?_, ?_, ?_, ?_, ?_, ?_, ?_⟩, by simp [intOf]; omega⟩
            · have := HQ.out.2.2.2.2.2; omega
            · exact HQ.out.2.2.1
            · omega
            · have := HQ.out.2.1; simpa using this
            · intro z hz
              rcases List.mem_cons.1 hz with rfl | hz
              · exact zlt_of_lt hlt'
              · exact hS2 z hz
            · have h1 := ((hrow2.drewN (nq + 1)).set (j := jj) (by rw [HQ.out.2.2.2.1]; omega) y).set (j := jj - 1) (by rw [List.length_set, HQ.out.2.2.2.1]; omega) x
              have hj1 : jj = (jj - 1) + 1 := by omega
              have hsm := set_mid (P := P ++ S1') (x := y) (y := x) (v := y) (u := x) (Q := S2 ++ (L.drop (k + 1) ++ Q)) (k := jj - 1) (by have := HQ.out; omega)
              rw [← hj1] at hsm
              rw [hsm] at h1
              simpa [enc] using h1
            · exact grown_setCell (grown_setCell (grown_drewN hg _) _ _) _ _
          · have hge : ¬ cmpI x.1 y.1 < 0 := Int.not_lt.2 (by assumption)
            refine ⟨⟨k + 1, S1' ++ [y] ++ x :: S2, by go_num, by omega, .inl (by omega), ?_, ?_, ?_, grown_drewN hg _⟩, by simp [intOf]; omega⟩
            · have hS := HQ.out.2.1
              rw [take_snoc hkl, HX.out]
              have hp := HS.out.2.1
              rw [← hS] at hp
              exact List.perm_middle.trans ((List.Perm.cons x hp).trans (List.perm_append_comm (l₁ := [x])))
            · have hS := HQ.out.2.1
              have hst := HS.out.2.2
              have hyx : zlt lt y x := zlt_early (HAH.out y (by rw [← hS]; simp)) hge
              rw [← hS] at hst
              refine Srt.append hst.left (List.pairwise_cons.2 ⟨hS2, hst.right⟩) fun u hu v hv => ?_
              have hux : zlt lt u x := by
                rcases List.mem_append.1 hu with hu | hu
                · exact zlt_trans hs ((hst.left).cross u hu y (by simp)) hyx
                · rw [List.mem_singleton.1 hu]; exact hyx
              rcases List.mem_cons.1 hv with rfl | hv
              · exact hux
              · exact hst.cross u hu v hv
            · have := hrow2.drewN nq; simpa using this
    · have hkl : L.length ≤ k := by have := HA.out; omega
      go_wp2
      go_end0
      refine ⟨rfl, ⟨S, ?_, hsrt, ?_⟩, hg⟩
      · rwa [List.take_of_length_le hkl] at hperm
      · rw [List.drop_of_length_le hkl, List.nil_append] at hrow
        exact hrow
end SoI
end Go.Proofs.Ytgmchedfgdgenaa
/- slices.symMergeCmpFunc at int, walked: it merges two sorted neighbours of a row that the call owns, stably. Conditions: both pieces lie in the row, none is empty. -/
namespace Go.Proofs.Ytgmchedfgdgenaa
open Go.RowKit
namespace SoI

/-- what the call owes, at one merge -/
def SymAt (g : Nat) (P L R Q : List Z) (rest : List Value) (w : World) : Ending → World → Prop := fun e w' =>
  e = .returned (.tuple #[]) ∧ (∃ S, Merged lt L R S ∧ RowAt enc w' g 3 (P ++ S ++ Q) rest) ∧ w.grownBy w' (some g)

set_option maxRecDepth 100000 in
set_option maxHeartbeats 800000 in
theorem sym_one (hs : Swo lt) (g n c : Nat) (ai mi bi : Int) (a m b : Nat) (x : Z) (P R Q : List Z) (rest : List Value) (w : World) (ea : ai = a) (em : mi = m) (eb : bi = b)
    (hr : RowAt enc w g 3 (P ++ [x] ++ R ++ Q) rest)
    (hn : (P ++ [x] ++ R ++ Q).length = n) (hbig : n ≤ 140737488351232) (ha : P.length = a) (hm : P.length + 1 = m) (hb : P.length + 1 + R.length = b)
    (hR : 0 < R.length) (hsR : Srt lt R) (hah : Ahead [x] R) :
    Calls Try.prog 96 #[.slice (some ⟨g, 0, none⟩) n c, .int .i64 ai, .int .i64 mi, .int .i64 bi, .func (.func 63) #[] #[]] w (SymAt g P [x] R Q rest w) := by
  subst ea em eb
  have hbn : b ≤ n := by simp at hn; omega
  have h1 : ((m : Int) - (a : Int) == 1) = true := beq_iff_eq.2 (by omega)
  have hmb : m ≤ b := by omega
  have ham : a < m := by omega
  have HA := Lib.hid (And.intro ha (And.intro hm (And.intro hb hn))); clear ha hm hb hn
  go_enter Try.func96, Try.ntmps96
  go_wp2
  go_loopw [10, 11] (fun i j wr => ∃ (ii jj : Nat), i = .int .i64 (ii : Nat) ∧ j = .int .i64 (jj : Nat) ∧ m ≤ ii ∧ ii ≤ jj ∧ jj ≤ b ∧ RowAt enc wr g 3 (P ++ [x] ++ R ++ Q) rest ∧ w.grownBy wr (some g) ∧
      (∀ t, t < ii - m → lt (nth R t).1 x.1) ∧ (∀ t, jj - m ≤ t → t < R.length → ¬ lt (nth R t).1 x.1)) (fun i j _ => (intOf j).toNat - (intOf i).toNat)
  case atStart => exact ⟨m, b, rfl, rfl, Nat.le_refl _, hmb, Nat.le_refl _, hr, grown_refl _ _, by intro t ht; omega, by intro t ht ht'; have := HA.out; omega⟩
  case round =>
    obtain ⟨ii, jj, rfl, rfl, hi1, hij, hj1, hrow0, hg0, hlo, hhi⟩ := hrel
    have HLO := Lib.hid hlo; clear hlo
    have HHI := Lib.hid hhi; clear hhi
    by_cases hlt : ii < jj
    · obtain ⟨h, hh⟩ : ∃ h : Nat, ((ii : Int) + (jj : Int)) / 2 = (h : Int) := ⟨(ii + jj) / 2, by omega⟩
      have hh1 : ii ≤ h := by omega
      have hh2 : h < jj := by omega
      have hhn : h < n := by omega
      have han : a < n := by omega
      have c1 : wr.cell? ⟨g, h, none⟩ = some (Value.int .i64 (nth R (h - m)).1) := by
        have h1 := hrow0.cell (j := h) (by have := HA.out; omega)
        rwa [List.append_assoc (P ++ [x]), nth_append_right (by have := HA.out; simp; omega), nth_append_left (by have := HA.out; simp; omega),
          show h - (P ++ [x]).length = h - m from by have := HA.out; simp; omega] at h1
      have c2 : wr.cell? ⟨g, a, none⟩ = some (Value.int .i64 x.1) := by
        have h1 := hrow0.cell (j := a) (by have := HA.out; omega)
        rwa [List.append_assoc (P ++ [x]), List.append_assoc P, List.singleton_append, nth_mid (by have := HA.out; omega)] at h1
      generalize hy : nth R (h - m) = y at c1
      have HY := Lib.hid hy; clear hy
      go_wp2
      go_quiet ((go_at_call 63; exact Calls.quiet_of_same (cmp_q _ _ _)))
      go_wp2
      · have hc : cmpI y.1 x.1 < 0 := by assumption
        refine ⟨⟨h + 1, jj, by go_num, rfl, by omega, by omega, hj1, hrow0.drewN _, grown_drewN hg0 _, ?_, HHI.out⟩, by simp [intOf]; omega⟩
        intro t ht
        have hsx : ∀ t, t < h - m → lt (nth R t).1 x.1 := by
          intro t ht
          have hp := nth_pair hsR (i := t) (j := h - m) ht (by have := HA.out; omega)
          rw [HY.out] at hp
          have hyx : zlt lt y x := .inl hc
          exact (zlt_late (hah x (by simp) _ (nth_mem (by have := HA.out; omega)))).1 (zlt_trans hs hp hyx)
        by_cases e : t < h - m
        · exact hsx t e
        · obtain rfl : t = h - m := by omega
          rw [HY.out]; exact hc
      · have hc : ¬ cmpI y.1 x.1 < 0 := Int.not_lt.2 (by assumption)
        refine ⟨⟨ii, h, rfl, by go_num, hi1, hh1, by omega, hrow0.drewN _, grown_drewN hg0 _, HLO.out, ?_⟩, by simp [intOf]; omega⟩
        intro t ht ht'
        by_cases e : t = h - m
        · subst e; rw [HY.out]; exact hc
        · intro hlt'
          have hp := nth_pair hsR (i := h - m) (j := t) (by omega) ht'
          rw [HY.out] at hp
          have hyx : zlt lt (nth R t) x := .inl hlt'
          have hym : y ∈ R := by rw [← HY.out]; exact nth_mem (by omega)
          exact hc ((zlt_late (hah x (by simp) _ hym)).1 (zlt_trans hs hp hyx))
    · obtain rfl : ii = jj := by omega
      have hLo := HLO.out
      have hHi := HHI.out
      have hS : Merged lt [x] R (R.take (ii - m) ++ x :: R.drop (ii - m)) := by
        refine ⟨?_, ?_⟩
        · refine List.perm_middle.trans ?_
          rw [List.take_append_drop]; exact List.Perm.refl _
        · have hRR : Srt lt (R.take (ii - m) ++ R.drop (ii - m)) := by rw [List.take_append_drop]; exact hsR
          refine Srt.append hRR.left (List.pairwise_cons.2 ⟨?_, hRR.right⟩) ?_
          · intro u hu
            obtain ⟨t, ht, rfl⟩ := mem_nth hu
            rw [nth_drop]
            simp only [List.length_drop] at ht
            exact zlt_early (hah x (by simp) _ (nth_mem (by omega))) (hHi _ (by omega) (by omega))
          · intro u hu v hv
            have hux : zlt lt u x := by
              obtain ⟨t, ht, rfl⟩ := mem_nth hu
              simp only [List.length_take] at ht
              rw [nth_take (by omega)]
              exact .inl (hLo t (by omega))
            rcases List.mem_cons.1 hv with rfl | hv
            · exact hux
            · exact hRR.cross u hu v hv
      have HS := Lib.hid hS; clear hS hLo hHi HLO HHI
      have hiR : ii - m ≤ R.length := by have := HA.out; omega
      have hi0 : 1 ≤ ii := by omega
      go_wp2
      go_loopw [13] (fun k wr => ∃ (kk : Nat), k = .int .i64 (kk : Nat) ∧ a ≤ kk ∧ kk ≤ ii - 1 ∧
          RowAt enc wr g 3 (P ++ R.take (kk - a) ++ x :: (R.drop (kk - a) ++ Q)) rest ∧ w.grownBy wr (some g)) (fun k _ => ii - (intOf k).toNat)
      case atStart => exact ⟨a, rfl, Nat.le_refl _, by omega, by simpa using hrow0, hg0⟩
      case round =>
        obtain ⟨kk, rfl, hk1, hk2, hrow, hg⟩ := hrel
        by_cases hlt : kk < ii - 1
        · have hkR : kk - a < R.length := by have := HA.out; omega
          rw [List.drop_eq_getElem_cons hkR, ← nth_eq hkR] at hrow
          generalize hy : nth R (kk - a) = y at hrow
          have HY := Lib.hid hy; clear hy
          have hrow2 : RowAt enc wr g 3 ((P ++ R.take (kk - a)) ++ x :: y :: (R.drop (kk - a + 1) ++ Q)) rest := by simpa using hrow
          have hpl : (P ++ R.take (kk - a)).length = kk := by have := HA.out; simp; omega
          have hlen : kk + 1 < ((P ++ R.take (kk - a)) ++ x :: y :: (R.drop (kk - a + 1) ++ Q)).length := by
            rw [List.length_append, hpl]; simp
          have c1 : wr.cell? ⟨g, kk, none⟩ = some (Value.int .i64 x.1) := by
            have h := hrow2.cell (j := kk) (by omega)
            rwa [nth_mid hpl.symm] at h
          have c2 : wr.cell? ⟨g, kk + 1, none⟩ = some (Value.int .i64 y.1) := by
            have h := hrow2.cell (j := kk + 1) (by omega)
            rwa [nth_mid1 (by omega)] at h
          have f1 := hrow2.frozen kk
          have f2 := hrow2.frozen (kk + 1)
          have hkn : kk + 1 < n := by omega
          have hlt' : (kk : Int) < (ii : Int) - 1 := by omega
          have HQ := Lib.hid (And.intro hpl hlen); clear hpl hlen hrow
          go_wp2
          go_region
          go_wp2
          refine ⟨⟨kk + 1, by go_num, by omega, by omega, ?_, ?_⟩, by simp [intOf]; omega⟩
          · have h1 := (hrow2.set (j := kk) (by have := HQ.out.2; omega) y).set (j := kk + 1) (by have := HQ.out.2; rw [List.length_set]; omega) x
            rw [set_mid' HQ.out.1.symm] at h1
            rw [show kk + 1 - a = kk - a + 1 from by omega, take_snoc hkR, HY.out]
            have h2 := h1.drew
            simpa [enc] using h2
          · exact grown_drew (grown_setCell (grown_setCell hg _ _) _ _)
        · have hge : ¬ (kk : Int) < (ii : Int) - 1 := by omega
          go_wp2
          go_end0
          refine ⟨rfl, ⟨_, HS.out, ?_⟩, hg⟩
          rw [show ii - m = kk - a from by have := HA.out; omega]
          simpa using hrow

set_option maxRecDepth 100000 in
set_option maxHeartbeats 800000 in
theorem sym_two (hs : Swo lt) (g n c : Nat) (ai mi bi : Int) (a m b : Nat) (x : Z) (P L Q : List Z) (rest : List Value) (w : World) (ea : ai = a) (em : mi = m) (eb : bi = b)
    (hr : RowAt enc w g 3 (P ++ L ++ [x] ++ Q) rest)
    (hn : (P ++ L ++ [x] ++ Q).length = n) (hbig : n ≤ 140737488351232) (ha : P.length = a) (hm : P.length + L.length = m) (hb : P.length + L.length + 1 = b)
    (hL : 1 < L.length) (hsL : Srt lt L) (hah : Ahead L [x]) :
    Calls Try.prog 96 #[.slice (some ⟨g, 0, none⟩) n c, .int .i64 ai, .int .i64 mi, .int .i64 bi, .func (.func 63) #[] #[]] w (SymAt g P L [x] Q rest w) := by
  subst ea em eb
  have hbn : b ≤ n := by simp at hn; omega
  have h1 : ((m : Int) - (a : Int) == 1) = false := beq_eq_false_iff_ne.2 (by omega)
  have h2 : ((b : Int) - (m : Int) == 1) = true := beq_iff_eq.2 (by omega)
  have hmb : m < b := by omega
  have ham : a < m := by omega
  have HA := Lib.hid (And.intro ha (And.intro hm (And.intro hb hn))); clear ha hm hb hn
  go_enter Try.func96, Try.ntmps96
  go_wp2
  go_loopw [14, 15] (fun i j wr => ∃ (ii jj : Nat), i = .int .i64 (ii : Nat) ∧ j = .int .i64 (jj : Nat) ∧ a ≤ ii ∧ ii ≤ jj ∧ jj ≤ m ∧ RowAt enc wr g 3 (P ++ L ++ [x] ++ Q) rest ∧ w.grownBy wr (some g) ∧
      (∀ t, t < ii - a → ¬ lt x.1 (nth L t).1) ∧ (∀ t, jj - a ≤ t → t < L.length → lt x.1 (nth L t).1)) (fun i j _ => (intOf j).toNat - (intOf i).toNat)
  case atStart => exact ⟨a, m, rfl, rfl, Nat.le_refl _, by omega, Nat.le_refl _, hr, grown_refl _ _, by intro t ht; omega, by intro t ht ht'; have := HA.out; omega⟩
  case round =>
    obtain ⟨ii, jj, rfl, rfl, hi1, hij, hj1, hrow0, hg0, hlo, hhi⟩ := hrel
    have HLO := Lib.hid hlo; clear hlo
    have HHI := Lib.hid hhi; clear hhi
    by_cases hlt : ii < jj
    · obtain ⟨h, hh⟩ : ∃ h : Nat, ((ii : Int) + (jj : Int)) / 2 = (h : Int) := ⟨(ii + jj) / 2, by omega⟩
      have hh1 : ii ≤ h := by omega
      have hh2 : h < jj := by omega
      have hhn : h < n := by omega
      have han : m < n := by omega
      have c1 : wr.cell? ⟨g, h, none⟩ = some (Value.int .i64 (nth L (h - a)).1) := by
        have h1 := hrow0.cell (j := h) (by have := HA.out; omega)
        rwa [List.append_assoc (P ++ L), List.append_assoc P, nth_append_right (by have := HA.out; omega), nth_append_left (by have := HA.out; omega),
          show h - P.length = h - a from by have := HA.out; omega] at h1
      have c2 : wr.cell? ⟨g, m, none⟩ = some (Value.int .i64 x.1) := by
        have h1 := hrow0.cell (j := m) (by have := HA.out; omega)
        rwa [List.append_assoc (P ++ L), List.singleton_append, nth_mid (by have := HA.out; simp; omega)] at h1
      generalize hy : nth L (h - a) = y at c1
      have HY := Lib.hid hy; clear hy
      have hyL : y ∈ L := by rw [← HY.out]; exact nth_mem (by have := HA.out; omega)
      go_wp2
      go_quiet ((go_at_call 63; exact Calls.quiet_of_same (cmp_q _ _ _)))
      go_wp2
      rotate_left
      · have hc : lt x.1 y.1 := by
          have h : (!decide (cmpI x.1 y.1 < 0)) = false := by assumption
          unfold lt; simpa using h
        refine ⟨⟨ii, h, rfl, by go_num, hi1, hh1, by omega, hrow0.drewN _, grown_drewN hg0 _, HLO.out, ?_⟩, by simp [intOf]; omega⟩
        intro t ht ht'
        by_cases e : t = h - a
        · subst e; rw [HY.out]; exact hc
        · have hp := nth_pair hsL (i := h - a) (j := t) (by omega) ht'
          rw [HY.out] at hp
          exact (zlt_late (hah _ (nth_mem (by omega)) x (by simp))).1 (zlt_trans hs (.inl hc) hp)
      · have hc : ¬ lt x.1 y.1 := by
          have h : (!decide (cmpI x.1 y.1 < 0)) = true := by assumption
          unfold lt; simpa using h
        refine ⟨⟨h + 1, jj, by go_num, rfl, by omega, by omega, hj1, hrow0.drewN _, grown_drewN hg0 _, ?_, HHI.out⟩, by simp [intOf]; omega⟩
        intro t ht
        by_cases e : t = h - a
        · subst e; rw [HY.out]; exact hc
        · intro hlt'
          have hp := nth_pair hsL (i := t) (j := h - a) (by omega) (by have := HA.out; omega)
          rw [HY.out] at hp
          exact hc ((zlt_late (hah _ hyL x (by simp))).1 (zlt_trans hs (.inl hlt') hp))
    · obtain rfl : ii = jj := by omega
      have hLo := HLO.out
      have hHi := HHI.out
      have hiL : ii - a ≤ L.length := by have := HA.out; omega
      have hS : Merged lt L [x] (L.take (ii - a) ++ x :: L.drop (ii - a)) := by
        refine ⟨?_, ?_⟩
        · refine List.perm_middle.trans ?_
          rw [List.take_append_drop]; exact List.perm_append_comm (l₁ := [x])
        · have hLL : Srt lt (L.take (ii - a) ++ L.drop (ii - a)) := by rw [List.take_append_drop]; exact hsL
          refine Srt.append hLL.left (List.pairwise_cons.2 ⟨?_, hLL.right⟩) ?_
          · intro u hu
            obtain ⟨t, ht, rfl⟩ := mem_nth hu
            rw [nth_drop]
            simp only [List.length_drop] at ht
            exact .inl (hHi _ (by omega) (by omega))
          · intro u hu v hv
            have hux : zlt lt u x := by
              obtain ⟨t, ht, rfl⟩ := mem_nth hu
              simp only [List.length_take] at ht
              rw [nth_take (by omega)]
              exact zlt_early (hah _ (nth_mem (by omega)) x (by simp)) (hLo t (by omega))
            rcases List.mem_cons.1 hv with rfl | hv
            · exact hux
            · exact hLL.cross u hu v hv
      have HS := Lib.hid hS; clear hS hLo hHi HLO HHI
      go_wp2
      go_loopw [17] (fun k wr => ∃ (kk : Nat), k = .int .i64 (kk : Nat) ∧ ii ≤ kk ∧ kk ≤ m ∧
          RowAt enc wr g 3 (P ++ L.take (kk - a) ++ x :: (L.drop (kk - a) ++ Q)) rest ∧ w.grownBy wr (some g)) (fun k _ => (intOf k).toNat)
      case atStart => exact ⟨m, rfl, by omega, by omega, by
        have e : m - a = L.length := by have := HA.out; omega
        rw [e, List.take_length, List.drop_length]; simpa using hrow0, hg0⟩
      case round =>
        obtain ⟨kk, rfl, hk1, hk2, hrow, hg⟩ := hrel
        by_cases hlt : ii < kk
        · have hkL : kk - a - 1 < L.length := by have := HA.out; omega
          rw [show kk - a = kk - a - 1 + 1 from by omega, take_snoc hkL] at hrow
          generalize hy : nth L (kk - a - 1) = y at hrow
          have HY := Lib.hid hy; clear hy
          have hrow2 : RowAt enc wr g 3 ((P ++ L.take (kk - a - 1)) ++ y :: x :: (L.drop (kk - a - 1 + 1) ++ Q)) rest := by simpa using hrow
          have hpl : (P ++ L.take (kk - a - 1)).length = kk - 1 := by have := HA.out; simp; omega
          have hlen : kk < ((P ++ L.take (kk - a - 1)) ++ y :: x :: (L.drop (kk - a - 1 + 1) ++ Q)).length := by
            rw [List.length_append, hpl]; simp; omega
          have c1 : wr.cell? ⟨g, kk - 1, none⟩ = some (Value.int .i64 y.1) := by
            have h := hrow2.cell (j := kk - 1) (by omega)
            rwa [nth_mid hpl.symm] at h
          have c2 : wr.cell? ⟨g, kk, none⟩ = some (Value.int .i64 x.1) := by
            have h := hrow2.cell (j := kk) (by omega)
            rwa [nth_mid1 (by omega)] at h
          have f1 := hrow2.frozen (kk - 1)
          have f2 := hrow2.frozen kk
          have hkn : kk < n := by omega
          have HQ := Lib.hid (And.intro hpl hlen); clear hpl hlen hrow
          go_wp2
          go_region
          go_wp2
          refine ⟨⟨kk - 1, by go_num, by omega, by omega, ?_, ?_⟩, by simp [intOf]; omega⟩
          · have h1 := (hrow2.set (j := kk) (by have := HQ.out.2; omega) y).set (j := kk - 1) (by have := HQ.out.2; rw [List.length_set]; omega) x
            have hsm := set_mid (P := P ++ L.take (kk - a - 1)) (x := y) (y := x) (v := y) (u := x) (Q := L.drop (kk - a - 1 + 1) ++ Q) HQ.out.1.symm
            rw [show kk - 1 + 1 = kk from by omega] at hsm
            rw [hsm] at h1
            have h2 := h1.drew
            rw [show kk - 1 - a = kk - a - 1 from by omega, List.drop_eq_getElem_cons hkL, ← nth_eq hkL, HY.out]
            simpa [enc] using h2
          · exact grown_drew (grown_setCell (grown_setCell hg _ _) _ _)
        · obtain rfl : ii = kk := by omega
          go_wp2
          go_end0
          refine ⟨rfl, ⟨_, HS.out, ?_⟩, hg⟩
          simpa using hrow
end SoI
end Go.Proofs.Ytgmchedfgdgenaa
/- slices.symMergeCmpFunc at int, whole: it merges two sorted neighbours of a row that the call owns, stably. Conditions: both pieces lie in the row, none is empty. -/
namespace Go.Proofs.Ytgmchedfgdgenaa
open Go.RowKit
namespace SoI

/-- the two lists, parted so that the first halves come before the second ones -/
theorem parted (hs : Swo lt) {L R : List Z} (hsL : Srt lt L) (hsR : Srt lt R) (hah : Ahead L R) {i j : Nat} (hi : i ≤ L.length) (hj : j ≤ R.length)
    (h1 : i = 0 ∨ j = R.length ∨ ¬ lt (nth R j).1 (nth L (i - 1)).1) (h2 : j = 0 ∨ i = L.length ∨ lt (nth R (j - 1)).1 (nth L i).1) :
    ∀ y, y ∈ L.take i ∨ y ∈ R.take j → ∀ x, x ∈ L.drop i ∨ x ∈ R.drop j → zlt lt y x := by
  have hLL : Srt lt (L.take i ++ L.drop i) := by rw [List.take_append_drop]; exact hsL
  have hRR : Srt lt (R.take j ++ R.drop j) := by rw [List.take_append_drop]; exact hsR
  intro y hy x hx
  rcases hy with hy | hy <;> rcases hx with hx | hx
  · exact hLL.cross y hy x hx
  · obtain ⟨t, ht, rfl⟩ := mem_nth hy
    obtain ⟨u, hu, rfl⟩ := mem_nth hx
    simp only [List.length_take, List.length_drop] at ht hu
    rw [nth_take (by omega), nth_drop]
    have h3 : ¬ lt (nth R j).1 (nth L (i - 1)).1 := by rcases h1 with h | h | h; omega; omega; exact h
    have h4 : zlt lt (nth L (i - 1)) (nth R j) := zlt_early (hah _ (nth_mem (by omega)) _ (nth_mem (by omega))) h3
    have h5 : zlt lt (nth L t) (nth R j) := by
      by_cases e : t = i - 1
      · rw [e]; exact h4
      · exact zlt_trans hs (nth_pair hsL (by omega) (by omega)) h4
    by_cases e : u = 0
    · subst e; exact h5
    · exact zlt_trans hs h5 (nth_pair hsR (by omega) (by omega))
  · obtain ⟨t, ht, rfl⟩ := mem_nth hy
    obtain ⟨u, hu, rfl⟩ := mem_nth hx
    simp only [List.length_take, List.length_drop] at ht hu
    rw [nth_take (by omega), nth_drop]
    have h3 : lt (nth R (j - 1)).1 (nth L i).1 := by rcases h2 with h | h | h; omega; omega; exact h
    have h5 : zlt lt (nth R t) (nth L i) := by
      by_cases e : t = j - 1
      · rw [e]; exact .inl h3
      · exact zlt_trans hs (nth_pair hsR (by omega) (by omega)) (.inl h3)
    by_cases e : u = 0
    · subst e; exact h5
    · exact zlt_trans hs h5 (nth_pair hsL (by omega) (by omega))
  · exact hRR.cross y hy x hx

/-- the contract of symMerge up to a size -/
def SymUpTo (N : Nat) : Prop :=
  ∀ (g n c : Nat) (ai mi bi : Int) (a m b : Nat) (P L R Q : List Z) (rest : List Value) (w : World), L.length + R.length ≤ N → ai = a → mi = m → bi = b →
    RowAt enc w g 3 (P ++ L ++ R ++ Q) rest → (P ++ L ++ R ++ Q).length = n → n ≤ 140737488351232 → P.length = a → P.length + L.length = m → P.length + L.length + R.length = b →
    0 < L.length → 0 < R.length → Srt lt L → Srt lt R → Ahead L R →
    Calls Try.prog 96 #[.slice (some ⟨g, 0, none⟩) n c, .int .i64 ai, .int .i64 mi, .int .i64 bi, .func (.func 63) #[] #[]] w (SymAt g P L R Q rest w)

set_option maxRecDepth 100000 in
set_option maxHeartbeats 1600000 in
theorem sym_step (hs : Swo lt) (N : Nat) (ih : SymUpTo N) (g n c : Nat) (a m b : Nat) (P L R Q : List Z) (rest : List Value) (w : World) (hN : L.length + R.length ≤ N + 1)
    (hr : RowAt enc w g 3 (P ++ L ++ R ++ Q) rest) (hn : (P ++ L ++ R ++ Q).length = n) (hbig : n ≤ 140737488351232) (ha : P.length = a) (hm : P.length + L.length = m) (hb : P.length + L.length + R.length = b)
    (hL : 1 < L.length) (hR : 1 < R.length) (hsL : Srt lt L) (hsR : Srt lt R) (hah : Ahead L R) :
    Calls Try.prog 96 #[.slice (some ⟨g, 0, none⟩) n c, .int .i64 a, .int .i64 m, .int .i64 b, .func (.func 63) #[] #[]] w (SymAt g P L R Q rest w) := by
  have hbn : b ≤ n := by simp at hn; omega
  have h1 : ((m : Int) - (a : Int) == 1) = false := beq_eq_false_iff_ne.2 (by omega)
  have h2 : ((b : Int) - (m : Int) == 1) = false := beq_eq_false_iff_ne.2 (by omega)
  obtain ⟨mid, hmid⟩ : ∃ mid : Nat, ((a : Int) + (b : Int)) / 2 = (mid : Int) := ⟨(a + b) / 2, by omega⟩
  obtain ⟨pp, hpp⟩ : ∃ pp : Nat, (mid : Int) + (m : Int) - 1 = (pp : Int) := ⟨mid + m - 1, by omega⟩
  have hmb : m + 1 < b := by omega
  have ham : a + 1 < m := by omega
  have hmid1 : a + b ≤ 2 * mid + 1 := by omega
  have hmid2 : 2 * mid ≤ a + b := by omega
  have hpp1 : pp + 1 ≤ mid + m := by omega
  have hpp2 : mid + m ≤ pp + 1 := by omega
  have HA := Lib.hid (And.intro ha (And.intro hm (And.intro hb hn))); clear ha hm hb hn
  go_enter Try.func96, Try.ntmps96
  go_upto_if 140 with fail
  go_cut [20, 21] (fun s r wx => ∃ s0 r0 : Nat, s = .int .i64 (s0 : Nat) ∧ r = .int .i64 (r0 : Nat) ∧ a ≤ s0 ∧ s0 ≤ r0 ∧ r0 ≤ m ∧ r0 ≤ mid ∧ mid + m ≤ b + s0 ∧ (s0 = a ∨ mid + m = b + s0) ∧ (r0 = m ∨ r0 = mid) ∧ w = wx)
  case first => as_aux_lemma =>
    go_wp2_with fail
    · have hc : mid < m := by assumption
      go_meet
      exact ⟨mid + m - b, mid, by go_num, rfl, by omega, by omega, by omega, by omega, by omega, by omega, by omega, rfl⟩
    · have hc : ¬ mid < m := by omega
      go_meet
      exact ⟨a, m, rfl, rfl, by omega, by omega, by omega, by omega, by omega, by omega, by omega, rfl⟩
  case rest => as_aux_lemma =>
    obtain ⟨s0, r0, rfl, rfl, hs1, hs2, hs3, hs4, hs5, hs6, hs7, rfl⟩ := hcut
    have HS67 := Lib.hid (And.intro hs6 hs7); clear hs6 hs7
    go_wp2_with fail
    go_loopw [20, 21] (fun s r wr => ∃ (ss rr : Nat), s = .int .i64 (ss : Nat) ∧ r = .int .i64 (rr : Nat) ∧ s0 ≤ ss ∧ ss ≤ rr ∧ rr ≤ r0 ∧
        RowAt enc wr g 3 (P ++ L ++ R ++ Q) rest ∧ w.grownBy wr (some g) ∧
        (s0 < ss → ¬ lt (nth R (pp - (ss - 1) - m)).1 (nth L (ss - 1 - a)).1) ∧ (rr < r0 → lt (nth R (pp - rr - m)).1 (nth L (rr - a)).1)) (fun s r _ => (intOf r).toNat - (intOf s).toNat)
    case atStart => exact ⟨s0, r0, rfl, rfl, Nat.le_refl _, hs2, Nat.le_refl _, hr, grown_refl _ _, by intro h; omega, by intro h; omega⟩
    case round => as_aux_lemma =>
      obtain ⟨ss, rr, rfl, rfl, hr1, hr2, hr3, hrow, hg, hlo, hhi⟩ := hrel
      have HLO := Lib.hid hlo; clear hlo
      have HHI := Lib.hid hhi; clear hhi
      by_cases hlt : ss < rr
      · obtain ⟨h, hh⟩ : ∃ h : Nat, ((ss : Int) + (rr : Int)) / 2 = (h : Int) := ⟨(ss + rr) / 2, by omega⟩
        have hh1 : ss ≤ h := by omega
        have hh2 : h < rr := by omega
        have hhn : h < n := by omega
        have hpn : pp - h < n := by omega
        have hpn' : (pp : Int) - (h : Int) < (n : Int) := by omega
        have hpn0 : 0 ≤ (pp : Int) - (h : Int) := by omega
        have c1 : wr.cell? ⟨g, h, none⟩ = some (Value.int .i64 (nth L (h - a)).1) := by
          have h1 := hrow.cell (j := h) (by have := HA.out; omega)
          rwa [List.append_assoc (P ++ L), List.append_assoc P, nth_append_right (by have := HA.out; omega), nth_append_left (by have := HA.out; omega),
            show h - P.length = h - a from by have := HA.out; omega] at h1
        have c2 : wr.cell? ⟨g, pp - h, none⟩ = some (Value.int .i64 (nth R (pp - h - m)).1) := by
          have h1 := hrow.cell (j := pp - h) (by have := HA.out; omega)
          rwa [List.append_assoc (P ++ L), nth_append_right (by have := HA.out; simp; omega), nth_append_left (by have := HA.out; simp; omega),
            show pp - h - (P ++ L).length = pp - h - m from by have := HA.out; simp; omega] at h1
        generalize hy : nth L (h - a) = y at c1
        generalize hx : nth R (pp - h - m) = x at c2
        have HY := Lib.hid (And.intro hy hx); clear hy hx
        go_wp2_with fail
        go_quiet ((go_at_call 63; exact Calls.quiet_of_same (cmp_q _ _ _)))
        go_wp2_with fail
        rotate_left
        · have hc : lt x.1 y.1 := by
            have h : (!decide (cmpI x.1 y.1 < 0)) = false := by assumption
            unfold lt; simpa using h
          refine ⟨⟨ss, h, rfl, by go_num, hr1, hh1, by omega, hrow.drewN _, grown_drewN hg _, HLO.out, fun _ => ?_⟩, by simp [intOf]; omega⟩
          rw [HY.out.1, HY.out.2]; exact hc
        · have hc : ¬ lt x.1 y.1 := by
            have h : (!decide (cmpI x.1 y.1 < 0)) = true := by assumption
            unfold lt; simpa using h
          refine ⟨⟨h + 1, rr, by go_num, rfl, by omega, by omega, hr3, hrow.drewN _, grown_drewN hg _, fun _ => ?_, HHI.out⟩, by simp [intOf]; omega⟩
          rw [show h + 1 - 1 = h from by omega, HY.out.1, HY.out.2]; exact hc
      · obtain rfl : ss = rr := by omega
        obtain ⟨ee, hee⟩ : ∃ ee : Nat, (mid : Int) + (m : Int) - (ss : Int) = (ee : Int) := ⟨mid + m - ss, by omega⟩
        have he1 : mid + m ≤ ee + ss := by omega
        have he2 : ee + ss ≤ mid + m := by omega
        have he3 : m ≤ ee := by omega
        have he4 : ee ≤ b := by omega
        have hpt : ∀ y, y ∈ L.take (ss - a) ∨ y ∈ R.take (ee - m) → ∀ x, x ∈ L.drop (ss - a) ∨ x ∈ R.drop (ee - m) → zlt lt y x := by
          have h67 := HS67.out
          have hA := HA.out
          have hlo := HLO.out
          have hhi := HHI.out
          refine parted hs hsL hsR hah (by omega) (by omega) ?_ ?_
          · by_cases e : s0 < ss
            · right; right
              have := hlo e
              rwa [show pp - (ss - 1) - m = ee - m from by omega, show ss - 1 - a = ss - a - 1 from by omega] at this
            · rcases h67.1 with h | h
              · left; omega
              · right; left; omega
          · by_cases e : ss < r0
            · right; right
              have := hhi e
              rwa [show pp - ss - m = ee - m - 1 from by omega] at this
            · rcases h67.2 with h | h
              · right; left; omega
              · left; omega
        have hl1 : (L.take (ss - a)).length = ss - a := by have := HA.out; simp; omega
        have hl2 : (L.drop (ss - a)).length = m - ss := by have := HA.out; simp; omega
        have hl3 : (R.take (ee - m)).length = ee - m := by have := HA.out; simp; omega
        have hl4 : (R.drop (ee - m)).length = b - ee := by have := HA.out; simp; omega
        have hLL := List.take_append_drop (ss - a) L
        have hRR := List.take_append_drop (ee - m) R
        have hsLL : Srt lt (L.take (ss - a) ++ L.drop (ss - a)) := by rw [hLL]; exact hsL
        have hsRR : Srt lt (R.take (ee - m) ++ R.drop (ee - m)) := by rw [hRR]; exact hsR
        have hah' : Ahead (L.take (ss - a) ++ L.drop (ss - a)) (R.take (ee - m) ++ R.drop (ee - m)) := by rw [hLL, hRR]; exact hah
        have hrow' : RowAt enc wr g 3 (P ++ (L.take (ss - a) ++ L.drop (ss - a)) ++ (R.take (ee - m) ++ R.drop (ee - m)) ++ Q) rest := by rw [hLL, hRR]; exact hrow
        have hfin : SymAt g P (L.take (ss - a) ++ L.drop (ss - a)) (R.take (ee - m) ++ R.drop (ee - m)) Q rest w = SymAt g P L R Q rest w := by rw [hLL, hRR]
        have hnn : (P ++ (L.take (ss - a) ++ L.drop (ss - a)) ++ (R.take (ee - m) ++ R.drop (ee - m)) ++ Q).length = n := by rw [hLL, hRR]; exact HA.out.2.2.2
        generalize L.take (ss - a) = L1 at *
        generalize L.drop (ss - a) = L2 at *
        generalize R.take (ee - m) = R1 at *
        generalize R.drop (ee - m) = R2 at *
        have HH := Lib.hid (And.intro hl1 (And.intro hl2 (And.intro hl3 (And.intro hl4 (And.intro hsLL (And.intro hsRR (And.intro hah' (And.intro hpt (And.intro hfin hnn)))))))))
        clear hl1 hl2 hl3 hl4 hsLL hsRR hah' hpt hfin hLL hRR hrow HLO HHI hnn
        go_upto_region 39 with fail
        go_cut [185] (fun t wx => ∃ bb : Bool, t = .bool bb ∧ (bb = true ↔ ss < m ∧ m < ee) ∧ wr = wx)
        case first => as_aux_lemma =>
          go_wp2_with fail
          all_goals
            go_meet
            exact ⟨_, rfl, by simp; omega, rfl⟩
        case rest => as_aux_lemma =>
          obtain ⟨bb, rfl, hbb, rfl⟩ := hcut
          have HB := Lib.hid hbb; clear hbb
          go_upto_if 185 with fail
          go_cut [] (fun wx => RowAt enc wx g 3 (P ++ L1 ++ R1 ++ L2 ++ (R2 ++ Q)) rest ∧ w.grownBy wx (some g))
          case first => as_aux_lemma =>
            rcases bb
            · have hbb : ¬ (ss < m ∧ m < ee) := fun h => by have := HB.out.2 h; cases this
              have hz : L2 = [] ∨ R1 = [] := by
                have := HH.out
                by_cases h : ss < m
                · right; exact List.eq_nil_of_length_eq_zero (by omega)
                · left; exact List.eq_nil_of_length_eq_zero (by omega)
              have HZ := Lib.hid hz; clear hz hbb
              go_wp2_with fail
              go_meet
              refine ⟨?_, hg⟩
              rcases HZ.out with h | h <;> subst h <;> simpa using hrow'
            · have hbb := HB.out.1 rfl
              have h1 : ss < m := hbb.1
              have h2 : m < ee := hbb.2
              clear hbb
              go_wp2_with fail
              refine (rotate g n c _ _ _ ss m ee _ (P ++ L1) L2 R1 (R2 ++ Q) rest _ rfl rfl (by omega) (by simpa using hrow') (by have := HH.out.2.2.2.2.2.2.2.2.2; simpa using this) hbig
                (by have := HH.out; have := HA.out; simp; omega) (by have := HH.out; have := HA.out; simp; omega) (by have := HH.out; have := HA.out; simp; omega) (by have := HH.out; omega) (by have := HH.out; omega)).mono ?_
              rintro e w' ⟨rfl, hrow2, hg2⟩
              go_wp2_with fail
              go_meet
              exact ⟨hrow2, grown_trans hg hg2⟩
          case rest => as_aux_lemma =>
            obtain ⟨hrow1, hg1⟩ := hcut
            clear hrow' hg HB
            go_upto_region 41 with fail
            go_cut [199] (fun t wx => ∃ bb : Bool, t = .bool bb ∧ (bb = true ↔ a < ss ∧ ss < mid) ∧ wc = wx)
            case first => as_aux_lemma =>
              go_wp2_with fail
              all_goals
                go_meet
                exact ⟨_, rfl, by simp; omega, rfl⟩
            case rest => as_aux_lemma =>
              obtain ⟨bb, rfl, hbb, rfl⟩ := hcut
              have HB := Lib.hid hbb; clear hbb
              go_upto_if 199 with fail
              go_cut [] (fun wx => (∃ S1, Merged lt L1 R1 S1 ∧ RowAt enc wx g 3 (P ++ S1 ++ L2 ++ R2 ++ Q) rest) ∧ w.grownBy wx (some g))
              case first => as_aux_lemma =>
                rcases bb
                · have hbb : ¬ (a < ss ∧ ss < mid) := fun h => by have := HB.out.2 h; cases this
                  have hz : L1 = [] ∨ R1 = [] := by
                    have := HH.out
                    by_cases h : a < ss
                    · right; exact List.eq_nil_of_length_eq_zero (by omega)
                    · left; exact List.eq_nil_of_length_eq_zero (by omega)
                  have HZ := Lib.hid hz; clear hz hbb
                  go_wp2_with fail
                  go_meet
                  refine ⟨?_, hg1⟩
                  have hH := HH.out
                  rcases HZ.out with h | h <;> subst h
                  · exact ⟨R1, Merged.nil_left hH.2.2.2.2.2.1.left, by simpa using hrow1⟩
                  · exact ⟨L1, Merged.nil_right hH.2.2.2.2.1.left, by simpa using hrow1⟩
                · have hbb := HB.out.1 rfl
                  have h1 : a < ss := hbb.1
                  have h2 : ss < mid := hbb.2
                  clear hbb
                  go_wp2_with fail
                  refine (ih g n c _ _ _ a ss mid P L1 R1 (L2 ++ R2 ++ Q) rest _ (by have := HH.out; have := HA.out; omega) rfl rfl rfl (by simpa using hrow1) (by have := HH.out.2.2.2.2.2.2.2.2.2; simp at this ⊢; omega) hbig
                    HA.out.1 (by have := HH.out; have := HA.out; omega) (by have := HH.out; have := HA.out; omega) (by have := HH.out; omega) (by have := HH.out; omega)
                    HH.out.2.2.2.2.1.left HH.out.2.2.2.2.2.1.left (fun y hy x hx => HH.out.2.2.2.2.2.2.1 y (by simp [hy]) x (by simp [hx]))).mono ?_
                  rintro e w' ⟨rfl, ⟨S1, hS1, hrow2⟩, hg2⟩
                  go_wp2_with fail
                  go_meet
                  exact ⟨⟨S1, hS1, by simpa using hrow2⟩, grown_trans hg1 hg2⟩
              case rest => as_aux_lemma =>
                obtain ⟨⟨S1, hS1, hrow2⟩, hg2⟩ := hcut
                have HS1 := Lib.hid hS1; clear hS1
                clear hrow1 hg1 HB
                have hS1l : S1.length = mid - a := by rw [HS1.out.1.length_eq]; have := HH.out; simp; omega
                by_cases hc : mid < ee ∧ ee < b
                · obtain ⟨hc1, hc2⟩ := hc
                  go_wp2_with fail
                  refine (ih g n c _ _ _ mid ee b (P ++ S1) L2 R2 Q rest _ (by have := HH.out; have := HA.out; omega) rfl rfl rfl (by simpa using hrow2)
                    (by have := HH.out.2.2.2.2.2.2.2.2.2; have := HH.out; simp at this ⊢; omega) hbig
                    (by have := HA.out; simp; omega) (by have := HH.out; have := HA.out; simp; omega) (by have := HH.out; have := HA.out; simp; omega) (by have := HH.out; omega) (by have := HH.out; omega)
                    HH.out.2.2.2.2.1.right HH.out.2.2.2.2.2.1.right (fun y hy x hx => HH.out.2.2.2.2.2.2.1 y (by simp [hy]) x (by simp [hx]))).mono ?_
                  rintro e w' ⟨rfl, ⟨S2, hS2, hrow3⟩, hg3⟩
                  go_wp2_with fail
                  go_end0
                  rw [← HH.out.2.2.2.2.2.2.2.2.1]
                  exact ⟨rfl, ⟨S1 ++ S2, Merged.halves HS1.out hS2 HH.out.2.2.2.2.2.2.2.1, by simpa using hrow3⟩, grown_trans hg2 hg3⟩
                · have hz : L2 = [] ∨ R2 = [] := by
                    have := HH.out
                    by_cases h : mid < ee
                    · right; exact List.eq_nil_of_length_eq_zero (by omega)
                    · left; exact List.eq_nil_of_length_eq_zero (by omega)
                  have HZ := Lib.hid hz; clear hz
                  have HC := Lib.hid hc; clear hc
                  go_wp2_with fail
                  all_goals first
                    | exact absurd ⟨by assumption, by assumption⟩ HC.out
                    | (go_end0
                       rw [← HH.out.2.2.2.2.2.2.2.2.1]
                       have hH := HH.out
                       rcases HZ.out with h | h <;> subst h
                       · exact ⟨rfl, ⟨S1 ++ R2, Merged.halves HS1.out (Merged.nil_left hH.2.2.2.2.2.1.right) hH.2.2.2.2.2.2.2.1, by simpa using hrow2⟩, hg2⟩
                       · exact ⟨rfl, ⟨S1 ++ L2, Merged.halves HS1.out (Merged.nil_right hH.2.2.2.2.1.right) hH.2.2.2.2.2.2.2.1, by simpa using hrow2⟩, hg2⟩)
end SoI
end Go.Proofs.Ytgmchedfgdgenaa
/- slices.SortStableFunc at int: it sorts a row that the call owns, stably. Condition: the slice is the head of that row. -/
namespace Go.Proofs.Ytgmchedfgdgenaa
open Go.RowKit
namespace SoI

theorem sym_upto (hs : Swo lt) (N : Nat) : SymUpTo N := by
  induction N with
  | zero => intro g n c ai mi bi a m b P L R Q rest w hN _ _ _ _ _ _ _ _ _ hL; omega
  | succ N ih =>
    intro g n c ai mi bi a m b P L R Q rest w hN ea em eb hr hn hbig ha hm hb hL hR hsL hsR hah
    by_cases h1 : L.length = 1
    · obtain ⟨x, rfl⟩ := List.length_eq_one_iff.1 h1
      exact sym_one hs g n c ai mi bi a m b x P R Q rest w ea em eb hr hn hbig ha (by simpa using hm) (by simpa using hb) hR hsR hah
    · by_cases h2 : R.length = 1
      · obtain ⟨x, rfl⟩ := List.length_eq_one_iff.1 h2
        exact sym_two hs g n c ai mi bi a m b x P L Q rest w ea em eb hr hn hbig ha hm (by simpa using hb) (by omega) hsL hah
      · subst ea em eb
        exact sym_step hs N ih g n c a m b P L R Q rest w hN hr hn hbig ha hm hb (by omega) (by omega) hsL hsR hah

/-- insertionSort, said of a piece -/
theorem ins_seg (hs : Swo lt) (g n c : Nat) (ai bi : Int) (a l : Nat) (cur : List Z) (rest : List Value) (w : World) (ea : ai = a) (eb : bi = ((a + l : Nat) : Int)) (hr : RowAt enc w g 3 cur rest)
    (hn : cur.length = n) (hbig : n ≤ 140737488351232) (hl : a + l ≤ n) (hu : Ups (seg cur a l)) :
    Calls Try.prog 95 #[.slice (some ⟨g, 0, none⟩) n c, .int .i64 ai, .int .i64 bi, .func (.func 63) #[] #[]] w fun e w' =>
      e = .returned (.tuple #[]) ∧ (∃ S, S.Perm (seg cur a l) ∧ Srt lt S ∧ RowAt enc w' g 3 (cur.take a ++ S ++ cur.drop (a + l)) rest) ∧ w.grownBy w' (some g) :=
  insertion hs g n c ai bi a (a + l) (cur.take a) (seg cur a l) (cur.drop (a + l)) rest w ea eb (by rw [← split3]; exact hr) (by rw [← split3]; exact hn) hbig (by simp; omega)
    (by rw [seg_length (by omega)]; simp; omega) hu

/-- symMerge, said of two neighbouring pieces -/
theorem sym_seg (hs : Swo lt) (g n c : Nat) (ai mi bi : Int) (a l r : Nat) (cur : List Z) (rest : List Value) (w : World) (ea : ai = a) (em : mi = ((a + l : Nat) : Int)) (eb : bi = ((a + (l + r) : Nat) : Int))
    (hr : RowAt enc w g 3 cur rest) (hn : cur.length = n) (hbig : n ≤ 140737488351232) (hl : a + (l + r) ≤ n) (hl0 : 0 < l) (hr0 : 0 < r)
    (h1 : Srt lt (seg cur a l)) (h2 : Srt lt (seg cur (a + l) r)) (hah : Ahead (seg cur a l) (seg cur (a + l) r)) :
    Calls Try.prog 96 #[.slice (some ⟨g, 0, none⟩) n c, .int .i64 ai, .int .i64 mi, .int .i64 bi, .func (.func 63) #[] #[]] w fun e w' =>
      e = .returned (.tuple #[]) ∧ (∃ S, Merged lt (seg cur a l) (seg cur (a + l) r) S ∧ RowAt enc w' g 3 (cur.take a ++ S ++ cur.drop (a + (l + r))) rest) ∧ w.grownBy w' (some g) := by
  have e3 : cur.take a ++ seg cur a l ++ seg cur (a + l) r ++ cur.drop (a + (l + r)) = cur := by
    rw [List.append_assoc (cur.take a), ← seg_split, ← split3]
  exact sym_upto hs _ g n c ai mi bi a (a + l) (a + (l + r)) (cur.take a) (seg cur a l) (seg cur (a + l) r) (cur.drop (a + (l + r))) rest w (Nat.le_refl _) ea em eb (by rw [e3]; exact hr) (by rw [e3]; exact hn) hbig
    (by simp; omega) (by rw [seg_length (by omega)]; simp; omega) (by rw [seg_length (by omega), seg_length (by omega)]; simp; omega) (by rw [seg_length (by omega)]; exact hl0) (by rw [seg_length (by omega)]; exact hr0) h1 h2 hah

set_option maxRecDepth 100000 in
set_option maxHeartbeats 800000 in
theorem stable (hs : Swo lt) (g n c : Nat) (zs : List Z) (rest : List Value) (w : World) (hr : RowAt enc w g 3 zs rest) (hn : zs.length = n) (hbig : n ≤ 140737488351232) (hu : Ups zs) :
    Calls Try.prog 87 #[.slice (some ⟨g, 0, none⟩) n c, .int .i64 n, .func (.func 63) #[] #[]] w fun e w' =>
      e = .returned (.tuple #[]) ∧ (∃ S, S.Perm zs ∧ Srt lt S ∧ RowAt enc w' g 3 S rest) ∧ w.grownBy w' (some g) := by
  have HN := Lib.hid hn; clear hn
  go_enter Try.func87, Try.ntmps87
  go_wp2_with fail
  go_loopw [7, 8] (fun a b wr => ∃ (aa bb : Nat) (cur : List Z), a = .int .i64 (aa : Nat) ∧ b = .int .i64 (bb : Nat) ∧ aa + 20 = bb ∧ aa ≤ n ∧ cur.length = n ∧ RowAt enc wr g 3 cur rest ∧ w.grownBy wr (some g) ∧
      20 ∣ aa ∧ cur.drop aa = zs.drop aa ∧ (∀ d, 20 ∣ d → d + 20 ≤ aa → Good lt zs cur d 20)) (fun a _ _ => n - (intOf a).toNat)
  case atStart => exact ⟨0, 20, zs, rfl, rfl, rfl, Nat.zero_le _, HN.out, hr, grown_refl _ _, Nat.dvd_zero _, rfl, by intro d _ h; omega⟩
  case round =>
    obtain ⟨aa, bb, cur, rfl, rfl, hab, han, hcl, hrow, hg, hdv, hdr, hgood⟩ := hrel
    have hab1 : aa + 20 ≤ bb := by omega
    have hab2 : bb ≤ aa + 20 := by omega
    have hus : ∀ l, Ups (seg cur aa l) := by
      intro l
      have h := hu.seg aa l
      unfold seg at *
      rw [hdr]; exact h
    have HG := Lib.hid (And.intro hdv (And.intro hdr (And.intro hgood (And.intro hcl hab)))); clear hdv hdr hgood hcl hab
    by_cases hlt : bb ≤ n
    · go_wp2_with fail
      refine (ins_seg hs g n c _ _ aa 20 cur rest _ rfl (by omega) hrow HG.out.2.2.2.1 hbig (by omega) (hus 20)).mono ?_
      rintro e w' ⟨rfl, ⟨S, hSp, hSs, hrow2⟩, hg2⟩
      go_wp2_with fail
      have hcl := HG.out.2.2.2.1
      have hSl : S.length = 20 := by rw [hSp.length_eq, seg_length (by omega)]
      have hlen : (cur.take aa ++ S ++ cur.drop (aa + 20)).length = n := by rw [put_length (by omega) hSl, hcl]
      refine ⟨⟨bb, bb + 20, _, by go_num, by go_num, rfl, hlt, hlen, hrow2, grown_trans hg hg2, ?_, ?_, ?_⟩, by simp [intOf]; omega⟩
      · rw [← HG.out.2.2.2.2]; exact Nat.dvd_add HG.out.1 (Nat.dvd_refl _)
      · rw [← HG.out.2.2.2.2, List.drop_append, List.drop_of_length_le (by simp; omega), List.nil_append, List.drop_drop]
        have h := congrArg (List.drop 20) HG.out.2.1
        rw [List.drop_drop, List.drop_drop] at h
        rw [← h]
        congr 1
        simp
        omega
      · intro d hd hd2
        by_cases e : d + 20 ≤ aa
        · exact (HG.out.2.2.1 d hd e).before (by omega) e
        · obtain rfl : aa = d := dvd_same HG.out.1 hd (by omega) (by omega)
          exact Good.start HG.out.2.1 (by have := HN.out; omega) (by have := HN.out; omega) hSp hSs
    · go_wp2_with fail
      refine (ins_seg hs g n c _ _ aa (n - aa) cur rest _ rfl (by omega) hrow HG.out.2.2.2.1 hbig (by omega) (hus _)).mono ?_
      rintro e w' ⟨rfl, ⟨S, hSp, hSs, hrow2⟩, hg2⟩
      have hcl := HG.out.2.2.2.1
      have hSl : S.length = n - aa := by rw [hSp.length_eq, seg_length (by omega)]
      have hlen : (cur.take aa ++ S ++ cur.drop (aa + (n - aa))).length = n := by rw [put_length (by omega) hSl, hcl]
      have hbl : Blocks lt zs (cur.take aa ++ S ++ cur.drop (aa + (n - aa))) 20 := by
        intro d hd
        have hzn := HN.out
        by_cases e : d + 20 ≤ aa
        · exact (HG.out.2.2.1 d hd e).before (by omega) e
        · by_cases e2 : d ≤ aa
          · obtain rfl : aa = d := dvd_same HG.out.1 hd e2 (by omega)
            exact (Good.start HG.out.2.1 (by omega) (by omega) hSp hSs).longer (by omega) (by omega) (by omega)
          · refine Good.beyond (by omega) ?_
            have : ¬ d < aa + 20 := fun e3 => by
              have := dvd_same hd HG.out.1 (by omega) e3
              omega
            omega
      generalize cur.take aa ++ S ++ cur.drop (aa + (n - aa)) = cur2 at hlen hbl hrow2
      have HB := Lib.hid (And.intro hbl hlen); clear hbl hlen hSl hcl hSp hSs HG hus hab1 hab2
      have hg3 := grown_trans hg hg2
      clear hrow hg hg2 hlt han
      go_wp2_with fail
      go_loopw [6, 7, 8, 9] (fun s _a _b _m wr => ∃ (bs : Nat) (cur : List Z), s = .int .i64 (bs : Nat) ∧ 0 < bs ∧ bs ≤ 2 * n + 20 ∧ cur.length = n ∧ Blocks lt zs cur bs ∧ RowAt enc wr g 3 cur rest ∧ w.grownBy wr (some g))
        (fun s _ _ _ _ => 2 * n + 40 - (intOf s).toNat)
      case atStart => exact ⟨20, cur2, rfl, by omega, by omega, HB.out.2, HB.out.1, hrow2, hg3⟩
      case round =>
        clear hrow2 hg3 HB
        obtain ⟨bs, cur, rfl, hbs0, hbs1, hcl, hbl, hrow, hg⟩ := hrel
        have HB := Lib.hid (And.intro hcl hbl); clear hcl hbl
        by_cases hlt : bs < n
        · go_wp2_with fail
          go_loopw [7, 8] (fun a b wr => ∃ (aa bb : Nat) (cur : List Z), a = .int .i64 (aa : Nat) ∧ b = .int .i64 (bb : Nat) ∧ aa + (bs + bs) = bb ∧ Pass lt zs cur bs aa ∧ RowAt enc wr g 3 cur rest ∧ w.grownBy wr (some g))
            (fun a _ _ => n - (intOf a).toNat)
          case atStart => exact ⟨0, bs + bs, cur, rfl, by go_num, by omega, Pass.start HB.out.2 (by have := HB.out.1; have := HN.out; omega) hbs0, hrow, hg⟩
          case round =>
            clear hrow hg HB
            obtain ⟨aa, bb, cur, rfl, rfl, hab, hp, hrow, hg⟩ := hrel
            have hab1 : aa + (bs + bs) ≤ bb := by omega
            have hab2 : bb ≤ aa + (bs + bs) := by omega
            have han : aa ≤ n := by have := hp.le; have := HN.out; omega
            have HP := Lib.hid (And.intro hp hab); clear hp hab
            by_cases hlt2 : bb ≤ n
            · go_wp2_with fail
              have h0 := HN.out
              have hcl := HP.out.1.len
              have hd1 : bs ∣ aa := Nat.dvd_trans (Nat.dvd_add (Nat.dvd_refl _) (Nat.dvd_refl _)) HP.out.1.dvd
              have hg1 := HP.out.1.todo aa hd1 (Nat.le_refl _)
              have hg2 := HP.out.1.todo (aa + bs) (Nat.dvd_add hd1 (Nat.dvd_refl _)) (by omega)
              refine (sym_seg hs g n c _ _ _ aa bs bs cur rest _ rfl (by omega) (by omega) hrow (by omega) hbig (by omega) hbs0 hbs0 hg1.2 hg2.2 (Good.ahead hu hg1 hg2)).mono ?_
              rintro e w' ⟨rfl, ⟨S, hm, hrow2⟩, hgg⟩
              have hP2 := HP.out.1.step hbs0 (by omega) hm
              have HP2 := Lib.hid hP2; clear hP2 hg1 hg2 hd1 h0 hcl hm
              go_wp2_with fail
              refine ⟨⟨bb, bb + (bs + bs), _, by go_num, by go_num, rfl, ?_, hrow2, grown_trans hg hgg⟩, by simp [intOf]; omega⟩
              rw [← HP.out.2]; exact HP2.out
            · by_cases hlt3 : aa + bs < n
              · go_wp2_with fail
                have h0 := HN.out
                have hcl := HP.out.1.len
                have hd1 : bs ∣ aa := Nat.dvd_trans (Nat.dvd_add (Nat.dvd_refl _) (Nat.dvd_refl _)) HP.out.1.dvd
                have hg1 := HP.out.1.todo aa hd1 (Nat.le_refl _)
                have hg2 : Good lt zs cur (aa + bs) (n - (aa + bs)) := by
                  have h3 := HP.out.1.todo (aa + bs) (Nat.dvd_add hd1 (Nat.dvd_refl _)) (by omega)
                  unfold Good at h3 ⊢
                  rw [seg_full (by omega), seg_full (by omega)] at h3 ⊢
                  exact h3
                refine (sym_seg hs g n c _ _ _ aa bs (n - (aa + bs)) cur rest _ rfl (by omega) (by omega) hrow (by omega) hbig (by omega) hbs0 (by omega) hg1.2 hg2.2 (Good.ahead hu hg1 hg2)).mono ?_
                rintro e w' ⟨rfl, ⟨S, hm, hrow2⟩, hgg⟩
                have hP2 := HP.out.1.last_two hbs0 (r := n - (aa + bs)) (by omega) (by omega) hm
                have HP2 := Lib.hid hP2; clear hP2 hg1 hg2 hd1 h0 hcl hm
                go_wp2_with fail
                exact ⟨⟨bs + bs, _, by go_num, by omega, by omega, by have := HP2.out.2; have := HN.out; omega, HP2.out.1, hrow2, grown_trans hg hgg⟩, by simp [intOf]; omega⟩
              · go_wp2_with fail
                have h0 := HN.out
                exact ⟨⟨bs + bs, cur, by go_num, by omega, by omega, by have := HP.out.1.len; omega, HP.out.1.last_one hbs0 (by omega), hrow, hg⟩, by simp [intOf]; omega⟩
        · go_wp2_with fail
          go_end0
          have h := HB.out.2.whole (by have := HB.out.1; have := HN.out; omega) (by have := HN.out; omega)
          exact ⟨rfl, ⟨cur, h.1, h.2, hrow⟩, hg⟩
end SoI
end Go.Proofs.Ytgmchedfgdgenaa
/- slices.SortStableFunc at int, of a slice that the call owns. Condition: a length that Go's bound lets in. -/
namespace Go.Proofs.Ytgmchedfgdgenaa
open Go.RowKit
namespace SoI

/-- what SortStableFunc does to a row that the call owns -/
theorem sort_row (hs : Swo lt) (g n c : Nat) (xs : List Int) (rest : List Value) (w : World) (hr : RowAt (Value.int .i64) w g 3 xs rest) (hn : xs.length = n) (hbig : n ≤ 140737488351232) :
    Calls Try.prog 62 #[.slice (some ⟨g, 0, none⟩) n c, .func (.func 63) #[] #[]] w fun e w' =>
      e = .returned (.tuple #[]) ∧ (∃ S : List Z, S.Perm xs.zipIdx ∧ Srt lt S ∧ RowAt (Value.int .i64) w' g 3 (S.map Prod.fst) rest) ∧ w.grownBy w' (some g) := by
  have hz : RowAt enc w g 3 xs.zipIdx rest := by
    unfold RowAt at hr ⊢
    rw [hr]
    congr 4
    apply List.ext_getElem <;> simp [enc]
  have hu : Ups xs.zipIdx := by
    unfold Ups
    rw [List.pairwise_iff_getElem]
    intro i j hi hj hij
    simpa using hij
  have H := stable hs g n c xs.zipIdx rest w hz (by simpa using hn) hbig hu
  have H' := Lib.hid H; clear H hz hu hr hn
  go_enter Try.func62, Try.ntmps62
  go_wp2_with fail
  refine H'.out.mono ?_
  rintro e w' ⟨rfl, ⟨S, h1, h2, h3⟩, hg⟩
  go_wp2_with fail
  go_end0
  refine ⟨rfl, ⟨S, h1, h2, ?_⟩, hg⟩
  unfold RowAt at h3 ⊢
  rw [h3]
  simp only [List.map_map]
  rfl
theorem ins_none (A : Option Addr) (c : Nat) (f : Value) (w : World) : Calls Try.prog 95 #[.slice A 0 c, .int .i64 0, .int .i64 0, f] w fun e w' => e = .returned (.tuple #[]) ∧ w = w' := by
  go_enter Try.func95, Try.ntmps95
  go_wp2_with fail
  go_loop [8] (fun i => i = .int .i64 1) (fun _ => 0)
  case atStart => rfl
  case round =>
    subst hrel
    go_wp2_with fail
    go_end0
    exact ⟨rfl, rfl⟩
theorem stable_none (A : Option Addr) (c : Nat) (f : Value) (w : World) : Calls Try.prog 87 #[.slice A 0 c, .int .i64 0, f] w fun e w' => e = .returned (.tuple #[]) ∧ w = w' := by
  go_enter Try.func87, Try.ntmps87
  go_wp2_with fail
  go_loop [7, 8] (fun a b => a = .int .i64 0 ∧ b = .int .i64 20) (fun _ _ => 0)
  case atStart => exact ⟨rfl, rfl⟩
  case round =>
    obtain ⟨rfl, rfl⟩ := hrel
    go_wp2_with fail
    refine (ins_none A c f _).mono ?_
    rintro e w' ⟨rfl, rfl⟩
    go_wp2_with fail
    go_loop [6] (fun s => s = .int .i64 20) (fun _ => 0)
    case atStart => rfl
    case round =>
      subst hrel
      go_wp2_with fail
      go_end0
      exact ⟨rfl, rfl⟩
theorem sort_none (A : Option Addr) (c : Nat) (f : Value) (w : World) : Calls Try.prog 62 #[.slice A 0 c, f] w fun e w' => e = .returned (.tuple #[]) ∧ w = w' := by
  go_enter Try.func62, Try.ntmps62
  go_wp2_with fail
  refine (stable_none A c f _).mono ?_
  rintro e w' ⟨rfl, rfl⟩
  go_wp2_with fail
  go_end0
  exact ⟨rfl, rfl⟩
/-- slices.SortStableFunc of a slice that the call owns -/
theorem sort_any (hs : Swo lt) (base : Nat) (A : Option Addr) (n c : Nat) (xs : List Int) (w : World) (h : OwnR (Value.int .i64) w base 3 A n c xs) (hbig : n ≤ 140737488351232) (hB : base ≤ w.heap.size) :
    Calls Try.prog 62 #[.slice A n c, .func (.func 63) #[] #[]] w fun e w' =>
      e = .returned (.tuple #[]) ∧ (∃ S : List Z, S.Perm xs.zipIdx ∧ Srt lt S ∧ OwnR (Value.int .i64) w' base 3 A n c (S.map Prod.fst)) ∧ Below base w w' := by
  rcases Nat.eq_zero_or_pos n with rfl | hn
  · obtain rfl : xs = [] := List.eq_nil_of_length_eq_zero h.length
    refine (sort_none A c _ w).mono ?_
    rintro e w' ⟨rfl, rfl⟩
    exact ⟨rfl, ⟨[], List.Perm.refl _, List.Pairwise.nil, h⟩, Below.refl _ _⟩
  · obtain ⟨g, rest, rfl, hbg, hr, hcap⟩ := h.row hn
    refine (sort_row hs g n c xs rest w hr h.length hbig).mono ?_
    rintro e w' ⟨rfl, ⟨S, h1, h2, h3⟩, hg⟩
    have hl : (S.map Prod.fst).length = n := by rw [List.length_map, h1.length_eq, List.length_zipIdx, h.length]
    exact ⟨rfl, ⟨S, h1, h2, OwnR.of_row' h3 hbg (by rw [hl]; exact hcap) h.capmax hl⟩, grown_below hg hbg hB⟩
end SoI
end Go.Proofs.Ytgmchedfgdgenaa
/- slices.Clone and slices.CompactFunc at int: walked. Conditions: the slice reads as a list, of a length that Go's bound lets in. -/
namespace Go.Proofs.Ytgmchedfgdgenaa
open Go.RowKit
namespace SoI

theorem info : (Try.prog.info? 3).map (fun i => (i.zero, i.size, i.bytes)) = some (some (.int .i64 0), 1, 8) := by kernel_rfl
theorem zero : ∀ w : World, (zeroValue 3).run Try.prog w = .ok (.int .i64 0) w := fun w => by kernel_rfl
theorem one (x : Int) : (Value.int .i64 x).oneCell' = true := rfl

set_option maxHeartbeats 400000 in
theorem clone_any (A : Option Addr) (n c : Nat) (xs : List Int) (w : World) (hx : Sl (Value.int .i64) w A n xs) (hb : n * 8 ≤ 140737488355328) :
    Calls Try.prog 32 #[.slice A n c] w fun e w' => ∃ A' c', e = .returned (.slice A' n c') ∧ OwnR (Value.int .i64) w' w.heap.size 3 A' n c' xs ∧ Below w.heap.size w w' := by
  obtain ⟨i0, hi, hz0, hz1, hz2⟩ := info_parts info
  have hbig := hx.big
  have q : ∀ (w : World) (a : Option Addr) (n c n' c' : Nat), (binOp .eql 22 (.slice a n c) (.slice none n' c')).run Try.prog w = .ok (.bool a.isNone) w := fun w a n c n' c' => Go.Lib.run_eql_slice_nil w _ _ a n c n' c' Try.underlying22
  rcases A with _ | ad
  · have hn : n = 0 := by
      rcases Nat.eq_zero_or_pos n with h0 | h0
      · exact h0
      · obtain ⟨b, off, e, _⟩ := hx.at' h0
        cases e
    subst hn
    obtain rfl : xs = [] := List.eq_nil_of_length_eq_zero hx.len
    clear hb hbig
    go_enter Try.func32, Try.ntmps32
    go_wp2_with fail
    go_ret
    exact ⟨none, 0, rfl, OwnR.nil _ _ _ _, Below.refl _ _⟩
  · go_enter Try.func32, Try.ntmps32
    have how : OwnR (Value.int .i64) (w.alloc (.cells #[] 3)) w.heap.size 3 (some ⟨w.heap.size, 0, none⟩) 0 0 [] :=
      OwnR.of_row (rest := []) (heap_alloc_new w _) (Nat.le_refl _) (by simp [maxLen])
    go_wp2_with (first
      | (at_builtin; refine wpList_append_sl _ (Value.int .i64) one rfl _ _ 22 rfl w.heap.size 3 i0 (.int .i64 0) 8 Try.underlying22 hi hz0 hz1 hz2 rfl _ _ _ _ rfl how _ _ _ _ rfl (hx.alloc _) ?c1 ?c2 ?c3 ?_)
      | fail)
    case c1 => unfold maxLen; omega
    case c2 => omega
    case c3 => simp
    intro A' c' w' how' hg hb' _
    go_wp2_with fail
    go_ret
    exact ⟨A', c', rfl, how', ((Below.refl _ _).alloc (Nat.le_refl _) _).trans hb'⟩

/-- the closure of set.Of -/
def eqb (a b : Int) : Bool := cmpI a b == 0
theorem eq_any (a b : Int) (w : World) : Calls Try.prog 65 #[Value.int .i64 a, Value.int .i64 b] w fun e w' => e = .returned (.bool (eqb a b)) ∧ w = w' := by
  go_enter Try.func65, Try.ntmps65
  go_wp2_with (go_at_call 63; refine (cmp_i _ _ _).mono ?_; rintro e w' ⟨rfl, rfl⟩)
  go_ret
  exact ⟨rfl, rfl⟩
theorem eq_q (a b : Int) (w : World) : Calls Try.prog 65 #[Value.int .i64 a, Value.int .i64 b] w fun e w' => e = .returned (.bool (eqb a b)) ∧ w' = w := (eq_any a b w).mono fun _ _ h => ⟨h.1, h.2.symm⟩

set_option maxRecDepth 100000 in
set_option maxHeartbeats 800000 in
theorem compact_row (g n c : Nat) (xs : List Int) (rest : List Value) (w : World) (hr : RowAt (Value.int .i64) w g 3 xs rest) (hn : xs.length = n) (hbig : n ≤ 140737488351232) (hnc : n ≤ c) (hc : c ≤ maxLen) :
    Calls Try.prog 64 #[.slice (some ⟨g, 0, none⟩) n c, .func (.func 65) #[] #[]] w fun e w' => ∃ k, e = .returned (.slice (some ⟨g, 0, none⟩) k c) ∧
      (∃ rest', RowAt (Value.int .i64) w' g 3 (dd eqb xs) rest' ∧ (dd eqb xs).length = k ∧ k + rest'.length = n + rest.length) ∧ w.grownBy w' (some g) := by
  unfold maxLen at hc
  have HN := Lib.hid hn; clear hn
  by_cases hn2 : n < 2
  · have hdd : dd eqb xs = xs := by
      have h0 := HN.out
      rcases xs with _ | ⟨x, _ | ⟨y, xs⟩⟩
      · rfl
      · rfl
      · simp at h0; omega
    have HD := Lib.hid hdd; clear hdd
    go_enter Try.func64, Try.ntmps64
    go_wp2_with fail
    go_ret
    exact ⟨n, rfl, ⟨rest, by rw [HD.out]; exact hr, by rw [HD.out, HN.out], rfl⟩, grown_refl _ _⟩
  · go_enter Try.func64, Try.ntmps64
    go_wp2_with fail
    go_loopw [5] (fun i wr => ∃ k : Nat, i = .int .i64 (k : Nat) ∧ 1 ≤ k ∧ k ≤ n ∧ dd eqb (xs.take k) = xs.take k ∧ RowAt (Value.int .i64) wr g 3 xs rest ∧ w.grownBy wr (some g)) (fun i _ => n - (intOf i).toNat)
    case atStart =>
      refine ⟨1, rfl, Nat.le_refl _, by omega, ?_, hr, grown_refl _ _⟩
      rcases xs with _ | ⟨x, xs⟩
      · rfl
      · simp [dd, ddF]
    case round =>
      obtain ⟨k, rfl, hk1, hk2, hdd, hrow, hg⟩ := hrel
      by_cases hlt : k < n
      · have hst := dd_step eqb xs k (by omega) (by rw [HN.out]; exact hlt)
        rw [hdd] at hst
        have HD := Lib.hid (And.intro hdd hst); clear hdd hst
        have c1 : wr.cell? ⟨g, k, none⟩ = some (Value.int .i64 (nth xs k)) := hrow.cell (by rw [HN.out]; exact hlt)
        have c2 : wr.cell? ⟨g, k - 1, none⟩ = some (Value.int .i64 (nth xs (k - 1))) := hrow.cell (by rw [HN.out]; omega)
        have hkc : k < c := by omega
        have hk0 : 0 < k := hk1
        go_wp2_with fail
        go_quiet ((go_at_call 65; exact Calls.quiet_of_same (eq_q _ _ _)))
        go_wp2_with fail
        · have heq : eqb (nth xs k) (nth xs (k - 1)) = true := by assumption
          have h0 : 1 ≤ n - k := by omega
          go_loopw [5, 7] (fun i j wq => ∃ (ii kk : Nat) (ys : List Int), i = .int .i64 (ii : Nat) ∧ j = .int .i64 (kk : Nat) ∧ 1 ≤ kk ∧ kk ≤ n - k ∧ k ≤ ii ∧ ii + 1 ≤ k + kk ∧
              ys.take ii = dd eqb (xs.take (k + kk)) ∧ ys.length = n ∧ (∀ j, k + kk ≤ j + 1 → nth ys j = nth xs j) ∧ RowAt (Value.int .i64) wq g 3 ys rest ∧ w.grownBy wq (some g)) (fun _ j _ => n - (intOf j).toNat)
          case atStart =>
            refine ⟨k, 1, xs, rfl, rfl, Nat.le_refl _, h0, Nat.le_refl _, Nat.le_refl _, ?_, HN.out, fun _ _ => rfl, hrow.drewN _, grown_drewN hg _⟩
            rw [HD.out.2, heq, if_pos rfl]
          case round =>
            obtain ⟨ii, kk, ys, rfl, rfl, hj1, hj2, hi1, hi2, htk, hyl, hsame, hrow, hg⟩ := hrel
            have HT := Lib.hid (And.intro htk (And.intro hyl hsame)); clear htk hyl hsame
            by_cases hlt2 : kk < n - k
            · have hst := dd_step eqb xs (k + kk) (by omega) (by rw [HN.out]; omega)
              have hkn : k + kk < n := by omega
              have hkk : 0 < kk := hj1
              have hin : ii < n := by omega
              have hjl : (kk : Int) < (n : Int) - (k : Int) := by omega
              have c1 : wr.cell? ⟨g, k + kk, none⟩ = some (Value.int .i64 (nth xs (k + kk))) := by
                rw [← HT.out.2.2 (k + kk) (by omega)]; exact hrow.cell (by rw [HT.out.2.1]; omega)
              have c2 : wr.cell? ⟨g, k + (kk - 1), none⟩ = some (Value.int .i64 (nth xs (k + (kk - 1)))) := by
                rw [← HT.out.2.2 (k + (kk - 1)) (by omega)]; exact hrow.cell (by rw [HT.out.2.1]; omega)
              have c3 : ∃ u, wr.cell? ⟨g, ii, none⟩ = some u := ⟨_, hrow.cell (by rw [HT.out.2.1]; omega)⟩
              obtain ⟨u, c3⟩ := c3
              have f1 := hrow.frozen ii
              rw [show k + kk - 1 = k + (kk - 1) from by omega] at hst
              generalize hx : nth xs (k + kk) = x at c1 hst
              generalize hy : nth xs (k + (kk - 1)) = y at c2 hst
              have HX := Lib.hid (And.intro hx (And.intro hy hst)); clear hx hy hst
              go_wp2_with fail
              go_quiet ((go_at_call 65; exact Calls.quiet_of_same (eq_q _ _ _)))
              go_wp2_with fail
              · have hne : eqb x y = false := by
                  have h : (!eqb x y) = true := by assumption
                  simpa using h
                have hH := HX.out.2.2
                rw [hne, if_neg (by simp)] at hH
                have hT := HT.out
                refine ⟨⟨ii + 1, kk + 1, ys.set ii x, by go_num, by go_num, by omega, by omega, by omega, by omega, ?_, by simpa using hT.2.1, ?_, ?_, ?_⟩, by simp [intOf]; omega⟩
                · rw [show k + (kk + 1) = k + kk + 1 from by omega, hH, ← hT.1, take_snoc (by simp; omega), nth_set_same (by omega), List.take_set_of_le (Nat.le_refl _)]
                · intro j hj
                  rw [nth_set_other (by omega)]
                  exact hT.2.2 j (by omega)
                · exact (hrow.drewN _).set (by omega) x
                · exact grown_setCell (grown_drewN hg _) _ _
              · have hne : eqb x y = true := by
                  have h : (!eqb x y) = false := by assumption
                  simpa using h
                have hH := HX.out.2.2
                rw [hne, if_pos rfl] at hH
                have hT := HT.out
                refine ⟨⟨ii, kk + 1, ys, rfl, by go_num, by omega, by omega, by omega, by omega, ?_, hT.2.1, ?_, hrow.drewN _, grown_drewN hg _⟩, by simp [intOf]; omega⟩
                · rw [show k + (kk + 1) = k + kk + 1 from by omega, hH, ← hT.1]
                · intro j hj
                  exact hT.2.2 j (by omega)
            · have hin : ii < n := by omega
              have hic : ii < c := by omega
              go_wp2_with (first
                | (refine wpList_clear_row _ (Value.int .i64) rfl _ _ rfl 3 (.int .i64 0) Try.underlying22 zero rfl rfl g ii (n - ii) _ rfl ys rest hrow (by have := HT.out.2.1; omega) ?_)
                | fail)
              intro w' hrow2 hg2
              go_wp2_with fail
              go_ret
              have hT := HT.out
              have hkk : k + kk = n := by omega
              have hxs : xs.take n = xs := List.take_of_length_le (by rw [HN.out]; exact Nat.le_refl _)
              rw [hkk, hxs] at hT
              refine ⟨ii, rfl, ⟨_, by rw [← hT.1]; exact hrow2, by rw [← hT.1]; simp; omega, by simp; omega⟩, grown_trans hg hg2⟩
        · have heq : eqb (nth xs k) (nth xs (k - 1)) = false := by assumption
          refine ⟨⟨k + 1, by go_num, by omega, by omega, ?_, hrow.drewN _, grown_drewN hg _⟩, by simp [intOf]; omega⟩
          rw [HD.out.2, heq, take_snoc (by rw [HN.out]; exact hlt)]
          rfl
      · obtain rfl : k = n := by omega
        go_wp2_with fail
        go_ret
        have he : dd eqb xs = xs := by
          have h := hdd
          rw [List.take_of_length_le (by rw [HN.out]; exact Nat.le_refl _)] at h
          exact h
        exact ⟨k, rfl, ⟨rest, by rw [he]; exact hrow, by rw [he, HN.out], rfl⟩, hg⟩
/-- slices.CompactFunc of a slice that the call owns -/
theorem compact_any (base : Nat) (A : Option Addr) (n c : Nat) (xs : List Int) (w : World) (h : OwnR (Value.int .i64) w base 3 A n c xs) (hbig : n ≤ 140737488351232) (hB : base ≤ w.heap.size) :
    Calls Try.prog 64 #[.slice A n c, .func (.func 65) #[] #[]] w fun e w' => ∃ k, e = .returned (.slice A k c) ∧ OwnR (Value.int .i64) w' base 3 A k c (dd eqb xs) ∧ Below base w w' := by
  rcases Nat.eq_zero_or_pos n with rfl | hn
  · obtain rfl : xs = [] := List.eq_nil_of_length_eq_zero h.length
    go_enter Try.func64, Try.ntmps64
    go_wp2_with fail
    go_ret
    exact ⟨0, rfl, h, Below.refl _ _⟩
  · obtain ⟨g, rest, rfl, hbg, hr, hcap⟩ := h.row hn
    refine (compact_row g n c xs rest w hr h.length hbig h.cap h.capmax).mono ?_
    rintro e w' ⟨k, rfl, ⟨rest', h1, h2, h3⟩, hg⟩
    exact ⟨k, rfl, OwnR.of_row' h1 hbg (by omega) h.capmax h2, grown_below hg hbg hB⟩
end SoI
end Go.Proofs.Ytgmchedfgdgenaa
/- set.Of, List, Len at int, walked. Conditions: the slice reads as a list, of a length that Go's bound lets in. -/
namespace Go.Proofs.Ytgmchedfgdgenaa
open Go.RowKit
namespace SoI

theorem swo : Swo lt := cmpokI.swo

set_option maxHeartbeats 400000 in
theorem of_any (A : Option Addr) (n c : Nat) (xs : List Int) (w : World) (hx : Sl (Value.int .i64) w A n xs) (hb : n * 8 ≤ 140737488355328) :
    Calls Try.prog 35 #[.slice A n c] w fun e w' => ∃ A' k c', e = .returned (.agg #[.slice A' k c']) ∧ OwnR (Value.int .i64) w' (w.heap.size + 1) 3 A' k c' (setOf cmpI xs) ∧ Below w.heap.size w w' := by
  have hbig := hx.big
  go_enter Try.func35, Try.ntmps35
  go_wp2_with fail
  refine (clone_any A n c xs _ (hx.alloc _) hb).mono ?_
  rintro e w1 ⟨A1, c1, rfl, how1, hb1⟩
  go_wp2_with fail
  have hs1 : w.heap.size + 1 ≤ w1.heap.size := by have := hb1.size; simpa using this
  simp only [World.size_alloc] at how1 hb1
  refine (sort_any swo (w.heap.size + 1) A1 n c1 xs _ how1 hbig hs1).mono ?_
  rintro e w2 ⟨rfl, ⟨S, hS1, hS2, how2⟩, hb2⟩
  go_wp2_with fail
  have hs2 : w.heap.size + 1 ≤ w2.heap.size := Nat.le_trans hs1 hb2.size
  refine (compact_any (w.heap.size + 1) A1 n c1 _ _ how2 hbig hs2).mono ?_
  rintro e w3 ⟨k, rfl, how3, hb3⟩
  have hb13 := (hb1.trans hb2).trans hb3
  have hbox : RowC w3 w.heap.size 82 [.slice none 0 0] := (RowC.new w 82 [.slice none 0 0]).below hb13 (Nat.lt_succ_self _)
  have r1 := hbox.cell 0
  have r2 := hbox.frozen 0
  have r3 : (w3.setCell ⟨w.heap.size, 0, none⟩ (.slice A1 k c1)).cell? ⟨w.heap.size, 0, none⟩ = some (.slice A1 k c1) := (hbox.put 0 _).cell 0
  have hfin : OwnR (Value.int .i64) (w3.setCell ⟨w.heap.size, 0, none⟩ (.slice A1 k c1)) (w.heap.size + 1) 3 A1 k c1 (setOf cmpI xs) := by
    have h := dd_setOf cmpokI hS1 hS2
    rw [← h]
    exact ownsRow_setCell_below how3 (Nat.lt_succ_self _) _
  have hbel : Below w.heap.size w (w3.setCell ⟨w.heap.size, 0, none⟩ (.slice A1 k c1)) :=
    (((Below.refl _ _).alloc (Nat.le_refl _) _).trans (hb13.mono (Nat.le_succ _))).setCell (Nat.le_refl _) _
  go_wp2_with fail
  exact bodyPost_ret (v := .agg #[.slice A1 k c1]) (by simp [results, Try.results35, go_sem, r3]) rfl ⟨A1, k, c1, rfl, hfin, hbel⟩

/-- List: a new slice of the things -/
theorem list_any (A : Option Addr) (n c : Nat) (xs : List Int) (w : World) (hx : Sl (Value.int .i64) w A n xs) (hb : n * 8 ≤ 140737488355328) :
    Calls Try.prog 37 #[.agg #[.slice A n c]] w fun e w' => ∃ A' c', e = .returned (.slice A' n c') ∧ OwnR (Value.int .i64) w' (w.heap.size + 1) 3 A' n c' xs ∧ Below w.heap.size w w' := by
  have hbig := hx.big
  obtain ⟨i0, hi, hz0, hz1, hz2⟩ := info_parts info
  have hbox := RowC.new w 82 [.slice A n c]
  have r1 := hbox.cell 0
  have r2 := hbox.frozen 0
  have how := OwnR.nil (Value.int .i64) (w.alloc (.cells #[.slice A n c] 82)) (w.heap.size + 1) 3
  go_enter Try.func37, Try.ntmps37
  go_wp2_with (first
    | (at_builtin; refine wpList_append_sl _ (Value.int .i64) one rfl _ _ 22 rfl (w.heap.size + 1) 3 i0 (.int .i64 0) 8 Try.underlying22 hi hz0 hz1 hz2 rfl _ _ _ _ rfl how _ _ _ _ rfl (hx.alloc _) ?c1 ?c2 ?c3 ?_)
    | fail)
  case c1 => unfold maxLen; omega
  case c2 => omega
  case c3 => simp
  intro A' c' w' how' hg hb' _
  go_wp2_with fail
  go_ret
  exact ⟨A', c', rfl, by simpa using how', ((Below.refl _ _).alloc (Nat.le_refl _) _).trans (hb'.mono (Nat.le_succ _))⟩
/-- Len -/
theorem len_any (A : Option Addr) (n c : Nat) (w : World) :
    Calls Try.prog 131 #[.agg #[.slice A n c]] w fun e w' => e = .returned (.int .i64 n) ∧ Below w.heap.size w w' := by
  have hbox := RowC.new w 82 [.slice A n c]
  have r1 := hbox.cell 0
  go_enter Try.func131, Try.ntmps131
  go_wp2_with fail
  go_ret
  exact ⟨rfl, (Below.refl _ _).alloc (Nat.le_refl _) _⟩
end SoI
end Go.Proofs.Ytgmchedfgdgenaa
/- choose at int, walked. Conditions: both lists rise; their lengths together are within Go's bound. -/
namespace Go.Proofs.Ytgmchedfgdgenaa
open Go.RowKit
namespace SoI

theorem cmp_qq (a b : Int) (w : World) : Calls Try.prog 63 #[Value.int .i64 a, Value.int .i64 b] w fun e w' => e = .returned (.int .i64 (cmpI a b)) ∧ w' = w :=
  (cmp_i a b w).mono fun _ _ h => ⟨h.1, h.2.symm⟩

/-- the loop's relation, of the world -/
structure ChooseAt (A A' : Option Addr) (n m c c' : Nat) (s o : List Int) (B : Nat) (w0 : World) (l b r : Bool) (i k : Nat) (Ao : Option Addr) (no co : Nat) (out : List Int) (wr : World) : Prop where
  ch : ChosenAt cmpI l b r s o i k out
  own : OwnR (Value.int .i64) wr (B + 3) 3 Ao no co out
  bel : Below (B + 3) w0 wr
  b1 : RowC wr B 82 [.slice A n c]
  b2 : RowC wr (B + 1) 82 [.slice A' m c']
  b3 : RowC wr (B + 2) 82 [.slice none 0 0]
  s1 : Sl (Value.int .i64) wr A n s
  s2 : Sl (Value.int .i64) wr A' m o
  sz : B + 3 ≤ wr.heap.size
theorem ChooseAt.drewN {A A' : Option Addr} {n m c c' : Nat} {s o : List Int} {B : Nat} {w0 : World} {l b r : Bool} {i k : Nat} {Ao : Option Addr} {no co : Nat} {out : List Int} {wr : World}
    (h : ChooseAt A A' n m c c' s o B w0 l b r i k Ao no co out wr) (q : Nat) : ChooseAt A A' n m c c' s o B w0 l b r i k Ao no co out (wr.drewN q) :=
  ⟨h.ch, h.own.drewN q, below_drewN h.bel q, h.b1.drewN q, h.b2.drewN q, h.b3.drewN q, h.s1.drewN q, h.s2.drewN q, h.sz⟩
theorem ChooseAt.skip {A A' : Option Addr} {n m c c' : Nat} {s o : List Int} {B : Nat} {w0 : World} {l b r : Bool} {i k i' k' : Nat} {Ao : Option Addr} {no co : Nat} {out : List Int} {wr : World}
    (h : ChooseAt A A' n m c c' s o B w0 l b r i k Ao no co out wr) (h' : ChosenAt cmpI l b r s o i' k' out) : ChooseAt A A' n m c c' s o B w0 l b r i' k' Ao no co out wr :=
  ⟨h', h.own, h.bel, h.b1, h.b2, h.b3, h.s1, h.s2, h.sz⟩
/-- behind an append -/
theorem ChooseAt.put {A A' : Option Addr} {n m c c' : Nat} {s o : List Int} {B : Nat} {w0 : World} {l b r : Bool} {i k i' k' : Nat} {Ao Ao' : Option Addr} {no co co' : Nat} {out : List Int} {x : Int} {wr w1 : World}
    (h : ChooseAt A A' n m c c' s o B w0 l b r i k Ao no co out wr) (h' : ChosenAt cmpI l b r s o i' k' (out ++ [x])) (how : OwnR (Value.int .i64) w1 (B + 3) 3 Ao' (no + 1) co' (out ++ [x]))
    (hb : Below (B + 3) (wr.alloc (.cells #[Value.int .i64 x] 3)) w1) (hs1 : Sl (Value.int .i64) w0 A n s) (hs2 : Sl (Value.int .i64) w0 A' m o) (h0 : w0.heap.size ≤ B + 3) : ChooseAt A A' n m c c' s o B w0 l b r i' k' Ao' (no + 1) co' (out ++ [x]) w1 := by
  have hb' : Below (B + 3) wr w1 := ((Below.refl _ _).alloc h.sz _).trans hb
  have hb0 := h.bel.trans hb'
  exact ⟨h', how, hb0, h.b1.below hb' (by omega), h.b2.below hb' (by omega), h.b3.below hb' (by omega), hs1.below h0 hb0, hs2.below h0 hb0, Nat.le_trans h.sz hb'.size⟩

set_option maxRecDepth 100000 in
set_option maxHeartbeats 1600000 in
theorem choose_any (A A' : Option Addr) (n m c c' : Nat) (s o : List Int) (l b r : Bool) (w : World) (hs : Sl (Value.int .i64) w A n s) (ho : Sl (Value.int .i64) w A' m o) (hsa : Asc cmpI s) (hoa : Asc cmpI o) (hb : (n + m) * 8 ≤ 140737488355328) :
    Calls Try.prog 66 #[.agg #[.slice A n c], .agg #[.slice A' m c'], .bool l, .bool b, .bool r] w fun e w' => ∃ Ao k co out, e = .returned (.agg #[.slice Ao k co]) ∧ Chosen cmpI l b r s o out ∧
      OwnR (Value.int .i64) w' (w.heap.size + 3) 3 Ao k co out ∧ Below w.heap.size w w' := by
  obtain ⟨i0, hi0, hz0, hz1, hz2⟩ := info_parts info
  have hn := hs.len
  have hm := ho.len
  obtain ⟨w0, hw0⟩ : ∃ w0 : World, w0 = ((w.alloc (.cells #[.slice A n c] 82)).alloc (.cells #[.slice A' m c'] 82)).alloc (.cells #[.slice none 0 0] 82) := ⟨_, rfl⟩
  have hsz : w0.heap.size = w.heap.size + 3 := by rw [hw0]; simp
  have hs0 : Sl (Value.int .i64) w0 A n s := by rw [hw0]; exact ((hs.alloc _).alloc _).alloc _
  have ho0 : Sl (Value.int .i64) w0 A' m o := by rw [hw0]; exact ((ho.alloc _).alloc _).alloc _
  have hbw : Below w.heap.size w w0 := by rw [hw0]; exact (((Below.refl _ _).alloc (Nat.le_refl _) _).alloc (by simp) _).alloc (by simp; omega) _
  have q1 : RowC w0 w.heap.size 82 [.slice A n c] := by rw [hw0]; exact ((RowC.new w 82 [.slice A n c]).alloc _).alloc _
  have q2 : RowC w0 (w.heap.size + 1) 82 [.slice A' m c'] := by
    have h := (RowC.new (w.alloc (.cells #[.slice A n c] 82)) 82 [.slice A' m c']).alloc (.cells #[.slice none 0 0] 82)
    rw [hw0]; simpa using h
  have q3 : RowC w0 (w.heap.size + 2) 82 [.slice none 0 0] := by
    have h := RowC.new ((w.alloc (.cells #[.slice A n c] 82)).alloc (.cells #[.slice A' m c'] 82)) 82 [.slice none 0 0]
    rw [hw0]; simpa using h
  have hst : ChooseAt A A' n m c c' s o w.heap.size w0 l b r 0 0 none 0 0 [] w0 :=
    ⟨ChosenAt.start _ _ _ _ _, OwnR.nil _ _ _ _, Below.refl _ _, q1, q2, q3, hs0, ho0, by omega⟩
  have HS := Lib.hid (And.intro hn (And.intro hm (And.intro hsz (And.intro hs0 (And.intro ho0 (And.intro hbw (And.intro hst hi0))))))); clear hn hm hsz hs0 ho0 hbw hst q1 q2 q3 hs ho hi0
  have hB : w.heap.size + 3 ≤ w0.heap.size := by rw [HS.out.2.2.1]; exact Nat.le_refl _
  have hbn : n + m ≤ 140737488351232 := by omega
  go_enter Try.func66, Try.ntmps66
  go_wp2_with fail
  rw [← hw0]
  rw [show w.heap.size + 1 + 1 = w.heap.size + 2 from rfl]
  clear hw0
  generalize hBB : w.heap.size = B at *
  go_loopw [11, 12, 13, 14] (fun ov i k _ wr => ∃ (ii kk no co : Nat) (Ao : Option Addr) (out : List Int), ov = .slice Ao no co ∧ i = .int .i64 (ii : Nat) ∧ k = .int .i64 (kk : Nat) ∧
      ChooseAt A A' n m c c' s o B w0 l b r ii kk Ao no co out wr) (fun _ i k _ _ => n + m - ((intOf i).toNat + (intOf k).toNat))
  case atStart => exact ⟨0, 0, 0, 0, none, [], rfl, rfl, rfl, HS.out.2.2.2.2.2.2.1⟩
  case round =>
    obtain ⟨ii, kk, no, co, Ao, out, rfl, rfl, rfl, hrel⟩ := hrel
    have hi1 : ii ≤ n := by have := hrel.ch.le1; have := HS.out.1; omega
    have hk1 : kk ≤ m := by have := hrel.ch.le2; have := HS.out.2.1; omega
    have hno : no ≤ ii + kk := by have h1 := hrel.ch.len; have h2 := hrel.own.length; omega
    have r1 := hrel.b1.cell 0
    have r2 := hrel.b2.cell 0
    have hcap1 : no + 1 ≤ maxLen := by unfold maxLen; omega
    by_cases hi : ii < n
    · by_cases hk : kk < m
      · obtain ⟨bs, offs, rfl, hbs, hcs⟩ := hrel.s1.at' (by omega)
        obtain ⟨bo, offo, rfl, hbo, hco⟩ := hrel.s2.at' (by omega)
        have g1 := hcs ii hi
        have g2 := hco kk hk
        clear hcs hco
        have g1' : ∀ W : World, Sl (Value.int .i64) W (some ⟨bs, offs, none⟩) n s → W.cell? ⟨bs, offs + ii, none⟩ = some (Value.int .i64 (nth s ii)) := fun W h => by
          obtain ⟨b1, o1, e, _, hc⟩ := h.at' (by omega)
          injection e with e; injection e with e1 e2; subst e1 e2
          exact hc ii hi
        have g2' : ∀ W : World, Sl (Value.int .i64) W (some ⟨bo, offo, none⟩) m o → W.cell? ⟨bo, offo + kk, none⟩ = some (Value.int .i64 (nth o kk)) := fun W h => by
          obtain ⟨b1, o1, e, _, hc⟩ := h.at' (by omega)
          injection e with e; injection e with e1 e2; subst e1 e2
          exact hc kk hk
        have G := Lib.hid (And.intro g1' g2'); clear g1' g2'
        have hlt : ii < s.length := by rw [HS.out.1]; exact hi
        have hlt2 : kk < o.length := by rw [HS.out.2.1]; exact hk
        have e1 : ((kk : Int) == (m : Int)) = false := beq_eq_false_iff_ne.2 (by omega)
        have e2 : ((ii : Int) == (n : Int)) = false := beq_eq_false_iff_ne.2 (by omega)
        have hcap2 : (no + 1) * 8 ≤ 140737488355328 := by omega
        generalize hc0 : cmpI (nth s ii) (nth o kk) = c0
        have HC0 := Lib.hid hc0; clear hc0
        rcases Int.lt_trichotomy c0 0 with h0 | h0 | h0
        · have hch := hrel.ch.left cmpokI hsa hoa hlt (fun _ => by rw [HC0.out]; exact h0)
          have HC := Lib.hid hch; clear hch
          rcases l
          · go_wp2_with fail
            go_quiet ((go_at_call 63; exact Calls.quiet_of_same (cmp_qq _ _ _)))
            rw [HC0.out]
            have hq := hrel.drewN nq
            have g1q := G.out.1 _ hq.s1
            have g2q := G.out.2 _ hq.s2
            have r1q := hq.b1.cell 0
            have r2q := hq.b2.cell 0
            clear g1 g2 r1 r2
            generalize wr.drewN nq = wq at *
            go_wp2_with fail
            exact ⟨⟨ii + 1, kk, no, co, Ao, out, rfl, by go_num, by go_num, hq.skip (by simpa using HC.out)⟩, by simp [intOf]; omega⟩
          · go_wp2_with fail
            go_quiet ((go_at_call 63; exact Calls.quiet_of_same (cmp_qq _ _ _)))
            rw [HC0.out]
            have hq := hrel.drewN nq
            have g1q := G.out.1 _ hq.s1
            have g2q := G.out.2 _ hq.s2
            have r1q := hq.b1.cell 0
            have r2q := hq.b2.cell 0
            clear g1 g2 r1 r2
            generalize wr.drewN nq = wq at *
            have how := hq.own.alloc (.cells #[Value.int .i64 (nth s ii)] 3)
            have hx := Sl.one (enc := Value.int .i64) wq 3 (nth s ii)
            have hbase : B + 3 ≤ (wq.alloc (.cells #[Value.int .i64 (nth s ii)] 3)).heap.size := by have := hq.sz; simp; omega
            go_wp2_with (first
              | (at_builtin; refine wpList_append_sl _ (Value.int .i64) one rfl _ _ 22 rfl (B + 3) 3 i0 (.int .i64 0) 8 Try.underlying22 HS.out.2.2.2.2.2.2.2 hz0 hz1 hz2 rfl _ _ _ _ rfl how _ _ _ _ rfl hx hcap1 hcap2 hbase ?_)
              | fail)
            intro Ao' co' w1 how' _ hb' _
            go_wp2_with fail
            exact ⟨⟨ii + 1, kk, no + 1, co', Ao', out ++ [nth s ii], rfl, by go_num, by go_num, hq.put (by simpa using HC.out) how' hb' HS.out.2.2.2.1 HS.out.2.2.2.2.1 (by rw [HS.out.2.2.1]; exact Nat.le_refl _)⟩, by simp [intOf]; omega⟩
        · subst h0
          have hch := hrel.ch.both cmpokI hsa hoa hlt hlt2 HC0.out
          have HC := Lib.hid hch; clear hch
          rcases b
          · go_wp2_with fail
            go_quiet ((go_at_call 63; exact Calls.quiet_of_same (cmp_qq _ _ _)))
            rw [HC0.out]
            have hq := hrel.drewN nq
            have g1q := G.out.1 _ hq.s1
            have g2q := G.out.2 _ hq.s2
            have r1q := hq.b1.cell 0
            have r2q := hq.b2.cell 0
            clear g1 g2 r1 r2
            generalize wr.drewN nq = wq at *
            go_wp2_with fail
            exact ⟨⟨ii + 1, kk + 1, no, co, Ao, out, rfl, by go_num, by go_num, hq.skip (by simpa using HC.out)⟩, by simp [intOf]; omega⟩
          · go_wp2_with fail
            go_quiet ((go_at_call 63; exact Calls.quiet_of_same (cmp_qq _ _ _)))
            rw [HC0.out]
            have hq := hrel.drewN nq
            have g1q := G.out.1 _ hq.s1
            have g2q := G.out.2 _ hq.s2
            have r1q := hq.b1.cell 0
            have r2q := hq.b2.cell 0
            clear g1 g2 r1 r2
            generalize wr.drewN nq = wq at *
            have how := hq.own.alloc (.cells #[Value.int .i64 (nth s ii)] 3)
            have hx := Sl.one (enc := Value.int .i64) wq 3 (nth s ii)
            have hbase : B + 3 ≤ (wq.alloc (.cells #[Value.int .i64 (nth s ii)] 3)).heap.size := by have := hq.sz; simp; omega
            go_wp2_with (first
              | (at_builtin; refine wpList_append_sl _ (Value.int .i64) one rfl _ _ 22 rfl (B + 3) 3 i0 (.int .i64 0) 8 Try.underlying22 HS.out.2.2.2.2.2.2.2 hz0 hz1 hz2 rfl _ _ _ _ rfl how _ _ _ _ rfl hx hcap1 hcap2 hbase ?_)
              | fail)
            intro Ao' co' w1 how' _ hb' _
            go_wp2_with fail
            exact ⟨⟨ii + 1, kk + 1, no + 1, co', Ao', out ++ [nth s ii], rfl, by go_num, by go_num, hq.put (by simpa using HC.out) how' hb' HS.out.2.2.2.1 HS.out.2.2.2.2.1 (by rw [HS.out.2.2.1]; exact Nat.le_refl _)⟩, by simp [intOf]; omega⟩
        · have hch := hrel.ch.right cmpokI hsa hoa hlt2 (fun _ => by have h1 := cmpokI.flip (nth s ii) (nth o kk); rw [HC0.out] at h1; exact h1.1 h0)
          have HC := Lib.hid hch; clear hch
          rcases r
          · go_wp2_with fail
            go_quiet ((go_at_call 63; exact Calls.quiet_of_same (cmp_qq _ _ _)))
            rw [HC0.out]
            have hq := hrel.drewN nq
            have g1q := G.out.1 _ hq.s1
            have g2q := G.out.2 _ hq.s2
            have r1q := hq.b1.cell 0
            have r2q := hq.b2.cell 0
            clear g1 g2 r1 r2
            generalize wr.drewN nq = wq at *
            go_wp2_with fail
            exact ⟨⟨ii, kk + 1, no, co, Ao, out, rfl, by go_num, by go_num, hq.skip (by simpa using HC.out)⟩, by simp [intOf]; omega⟩
          · go_wp2_with fail
            go_quiet ((go_at_call 63; exact Calls.quiet_of_same (cmp_qq _ _ _)))
            rw [HC0.out]
            have hq := hrel.drewN nq
            have g1q := G.out.1 _ hq.s1
            have g2q := G.out.2 _ hq.s2
            have r1q := hq.b1.cell 0
            have r2q := hq.b2.cell 0
            clear g1 g2 r1 r2
            generalize wr.drewN nq = wq at *
            have how := hq.own.alloc (.cells #[Value.int .i64 (nth o kk)] 3)
            have hx := Sl.one (enc := Value.int .i64) wq 3 (nth o kk)
            have hbase : B + 3 ≤ (wq.alloc (.cells #[Value.int .i64 (nth o kk)] 3)).heap.size := by have := hq.sz; simp; omega
            go_wp2_with (first
              | (at_builtin; refine wpList_append_sl _ (Value.int .i64) one rfl _ _ 22 rfl (B + 3) 3 i0 (.int .i64 0) 8 Try.underlying22 HS.out.2.2.2.2.2.2.2 hz0 hz1 hz2 rfl _ _ _ _ rfl how _ _ _ _ rfl hx hcap1 hcap2 hbase ?_)
              | fail)
            intro Ao' co' w1 how' _ hb' _
            go_wp2_with fail
            exact ⟨⟨ii, kk + 1, no + 1, co', Ao', out ++ [nth o kk], rfl, by go_num, by go_num, hq.put (by simpa using HC.out) how' hb' HS.out.2.2.2.1 HS.out.2.2.2.2.1 (by rw [HS.out.2.2.1]; exact Nat.le_refl _)⟩, by simp [intOf]; omega⟩
      · -- o is at its end
        obtain rfl : kk = m := by omega
        obtain ⟨bs, offs, rfl, hbs, hcs⟩ := hrel.s1.at' (by omega)
        have g1 := hcs ii hi
        clear hcs
        have hlt : ii < s.length := by rw [HS.out.1]; exact hi
        have hch := hrel.ch.left cmpokI hsa hoa hlt (by intro h; have := HS.out.2.1; omega)
        have HC := Lib.hid hch; clear hch
        have hcap2 : (no + 1) * 8 ≤ 140737488355328 := by omega
        have hbeq : ((kk : Int) == (kk : Int)) = true := by simp
        rcases l
        · go_wp2_with fail
          exact ⟨⟨ii + 1, kk, no, co, Ao, out, rfl, by go_num, by go_num, hrel.skip (by simpa using HC.out)⟩, by simp [intOf]; omega⟩
        · have how := hrel.own.alloc (.cells #[Value.int .i64 (nth s ii)] 3)
          have hx := Sl.one (enc := Value.int .i64) wr 3 (nth s ii)
          have hbase : B + 3 ≤ (wr.alloc (.cells #[Value.int .i64 (nth s ii)] 3)).heap.size := by have := hrel.sz; simp; omega
          go_wp2_with (first
            | (at_builtin; refine wpList_append_sl _ (Value.int .i64) one rfl _ _ 22 rfl (B + 3) 3 i0 (.int .i64 0) 8 Try.underlying22 HS.out.2.2.2.2.2.2.2 hz0 hz1 hz2 rfl _ _ _ _ rfl how _ _ _ _ rfl hx hcap1 hcap2 hbase ?_)
            | fail)
          intro Ao' co' w1 how' _ hb' _
          go_wp2_with fail
          exact ⟨⟨ii + 1, kk, no + 1, co', Ao', out ++ [nth s ii], rfl, by go_num, by go_num, hrel.put (by simpa using HC.out) how' hb' HS.out.2.2.2.1 HS.out.2.2.2.2.1 (by rw [HS.out.2.2.1]; exact Nat.le_refl _)⟩, by simp [intOf]; omega⟩
    · by_cases hk : kk < m
      · -- s is at its end
        obtain rfl : ii = n := by omega
        obtain ⟨bo, offo, rfl, hbo, hco⟩ := hrel.s2.at' (by omega)
        have g1 := hco kk hk
        clear hco
        have hlt : kk < o.length := by rw [HS.out.2.1]; exact hk
        have hch := hrel.ch.right cmpokI hsa hoa hlt (by intro h; have := HS.out.1; omega)
        have HC := Lib.hid hch; clear hch
        have hcap2 : (no + 1) * 8 ≤ 140737488355328 := by omega
        have hbeq : ((ii : Int) == (ii : Int)) = true := by simp
        have e1 : ((kk : Int) == (m : Int)) = false := beq_eq_false_iff_ne.2 (by omega)
        rcases r
        · go_wp2_with fail
          exact ⟨⟨ii, kk + 1, no, co, Ao, out, rfl, by go_num, by go_num, hrel.skip (by simpa using HC.out)⟩, by simp [intOf]; omega⟩
        · have how := hrel.own.alloc (.cells #[Value.int .i64 (nth o kk)] 3)
          have hx := Sl.one (enc := Value.int .i64) wr 3 (nth o kk)
          have hbase : B + 3 ≤ (wr.alloc (.cells #[Value.int .i64 (nth o kk)] 3)).heap.size := by have := hrel.sz; simp; omega
          go_wp2_with (first
            | (at_builtin; refine wpList_append_sl _ (Value.int .i64) one rfl _ _ 22 rfl (B + 3) 3 i0 (.int .i64 0) 8 Try.underlying22 HS.out.2.2.2.2.2.2.2 hz0 hz1 hz2 rfl _ _ _ _ rfl how _ _ _ _ rfl hx hcap1 hcap2 hbase ?_)
            | fail)
          intro Ao' co' w1 how' _ hb' _
          go_wp2_with fail
          exact ⟨⟨ii, kk + 1, no + 1, co', Ao', out ++ [nth o kk], rfl, by go_num, by go_num, hrel.put (by simpa using HC.out) how' hb' HS.out.2.2.2.1 HS.out.2.2.2.2.1 (by rw [HS.out.2.2.1]; exact Nat.le_refl _)⟩, by simp [intOf]; omega⟩
      · obtain rfl : ii = n := by omega
        obtain rfl : kk = m := by omega
        have r3 := hrel.b3.cell 0
        have r4 := hrel.b3.frozen 0
        have r5 : (wr.setCell ⟨B + 2, 0, none⟩ (.slice Ao no co)).cell? ⟨B + 2, 0, none⟩ = some (.slice Ao no co) := (hrel.b3.put 0 _).cell 0
        have hch : Chosen cmpI l b r s o out := by
          have h := hrel.ch
          rw [← HS.out.1, ← HS.out.2.1] at h
          exact h.done
        have HC := Lib.hid hch; clear hch
        go_wp2_with fail
        have hfin : Below B w (wr.setCell ⟨B + 2, 0, none⟩ (.slice Ao no co)) := (HS.out.2.2.2.2.2.1.trans (hrel.bel.mono (by omega))).setCell (show B ≤ B + 2 by omega) _
        exact bodyPost_ret (v := .agg #[.slice Ao no co]) (by simp [results, Try.results66, go_sem, r5]) rfl ⟨Ao, no, co, out, rfl, HC.out, by rw [hBB]; exact ownsRow_setCell_below hrel.own (show B + 2 < B + 3 by omega) _, by rw [hBB]; exact hfin⟩
end SoI
end Go.Proofs.Ytgmchedfgdgenaa
/- Join, Meet, Minus, Within, Same at int, walked. Conditions: both lists rise; their lengths together are within Go's bound. -/
namespace Go.Proofs.Ytgmchedfgdgenaa
open Go.RowKit
namespace SoI

/-- two boxes and a third one for the answer -/
theorem boxes (A A' : Option Addr) (n m c c' : Nat) (s o : List Int) (w w0 : World) (hw0 : w0 = ((w.alloc (.cells #[.slice A n c] 82)).alloc (.cells #[.slice A' m c'] 82)).alloc (.cells #[.slice none 0 0] 82))
    (hs : Sl (Value.int .i64) w A n s) (ho : Sl (Value.int .i64) w A' m o) : w0.heap.size = w.heap.size + 3 ∧ Sl (Value.int .i64) w0 A n s ∧ Sl (Value.int .i64) w0 A' m o ∧ Below w.heap.size w w0 ∧ RowC w0 w.heap.size 82 [.slice A n c] ∧
      RowC w0 (w.heap.size + 1) 82 [.slice A' m c'] ∧ RowC w0 (w.heap.size + 2) 82 [.slice none 0 0] := by
  subst hw0
  refine ⟨by simp, ((hs.alloc _).alloc _).alloc _, ((ho.alloc _).alloc _).alloc _, (((Below.refl _ _).alloc (Nat.le_refl _) _).alloc (by simp) _).alloc (by simp; omega) _, ((RowC.new w 82 [.slice A n c]).alloc _).alloc _, ?_, ?_⟩
  · have h := (RowC.new (w.alloc (.cells #[.slice A n c] 82)) 82 [.slice A' m c']).alloc (.cells #[.slice none 0 0] 82)
    simpa using h
  · have h := RowC.new ((w.alloc (.cells #[.slice A n c] 82)).alloc (.cells #[.slice A' m c'] 82)) 82 [.slice none 0 0]
    simpa using h

set_option maxHeartbeats 800000 in
theorem join_any (A A' : Option Addr) (n m c c' : Nat) (s o : List Int) (w : World) (hs : Sl (Value.int .i64) w A n s) (ho : Sl (Value.int .i64) w A' m o) (hsa : Asc cmpI s) (hoa : Asc cmpI o) (hb : (n + m) * 8 ≤ 140737488355328) :
    Calls Try.prog 36 #[.agg #[.slice A n c], .agg #[.slice A' m c']] w fun e w' => ∃ Ao k co out, e = .returned (.agg #[.slice Ao k co]) ∧ Chosen cmpI true true true s o out ∧
      Sl (Value.int .i64) w' Ao k out ∧ Below w.heap.size w w' := by
  obtain ⟨w0, hw0⟩ : ∃ w0 : World, w0 = ((w.alloc (.cells #[.slice A n c] 82)).alloc (.cells #[.slice A' m c'] 82)).alloc (.cells #[.slice none 0 0] 82) := ⟨_, rfl⟩
  obtain ⟨hsz, hs0, ho0, hbw, q1, q2, q3⟩ := boxes A A' n m c c' s o w w0 hw0 hs ho
  have r1 := q1.cell 0
  have r2 := q2.cell 0
  have HB := Lib.hid hbw; clear hbw
  go_enter Try.func36, Try.ntmps36
  go_wp2_with fail
  rw [← hw0]
  rw [show w.heap.size + 1 + 1 = w.heap.size + 2 from rfl]
  refine (choose_any A A' n m c c' s o true true true w0 hs0 ho0 hsa hoa hb).mono ?_
  rintro e w1 ⟨Ao, k, co, out, rfl, hch, how, hbel⟩
  have HC := Lib.hid hch
  have p3 := q3.below' hbel
  have r3 := p3.cell 0
  have r4 := p3.frozen 0
  have r5 : (w1.setCell ⟨w.heap.size + 2, 0, none⟩ (.slice Ao k co)).cell? ⟨w.heap.size + 2, 0, none⟩ = some (.slice Ao k co) := (p3.put 0 _).cell 0
  have hk : k ≤ n + m := by have h1 := hch.len; have h2 := how.length; have h3 := hs.len; have h4 := ho.len; omega
  clear hch
  go_wp2_with fail
  have hfin : Below w.heap.size w (w1.setCell ⟨w.heap.size + 2, 0, none⟩ (.slice Ao k co)) := (HB.out.trans (hbel.mono (by omega))).setCell (show w.heap.size ≤ w.heap.size + 2 by omega) _
  exact bodyPost_ret (v := .agg #[.slice Ao k co]) (by simp [results, Try.results36, go_sem, r5]) rfl ⟨Ao, k, co, out, rfl, HC.out, OwnR.sl (ownsRow_setCell_below how (show w.heap.size + 2 < w0.heap.size + 3 by omega) _) (by omega), hfin⟩

end SoI
end Go.Proofs.Ytgmchedfgdgenaa
