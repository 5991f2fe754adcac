/- Plain facts on stable merging, without any program: lists of pairs (a thing, its place), their strict order, merging two sorted lists, blocks. No condition. -/
import Derived.Test.YtgmchedfgdgenaaBase
namespace Go.Proofs.Ytgmchedfgdgenaa

/-- a strict weak order -/
structure Swo {α : Type} (lt : α → α → Prop) : Prop where
  irr : ∀ x, ¬ lt x x
  tr : ∀ {x y z}, lt x y → lt y z → lt x z
  neg : ∀ {x z}, lt x z → ∀ y, lt x y ∨ lt y z

/-- of two pairs: the lesser thing first, of equal ones the earlier one -/
def zlt {α : Type} (lt : α → α → Prop) (x y : α × Nat) : Prop := lt x.1 y.1 ∨ (¬ lt y.1 x.1 ∧ x.2 < y.2)

section
variable {α : Type} {lt : α → α → Prop}
theorem Swo.asymm (h : Swo lt) {x y : α} (a : lt x y) : ¬ lt y x := fun b => h.irr x (h.tr a b)
theorem zlt_trans (h : Swo lt) {x y z : α × Nat} (a : zlt lt x y) (b : zlt lt y z) : zlt lt x z := by
  rcases a with a | ⟨a, a'⟩ <;> rcases b with b | ⟨b, b'⟩
  · exact .inl (h.tr a b)
  · rcases h.neg a z.1 with c | c
    · exact .inl c
    · exact absurd c b
  · rcases h.neg b x.1 with c | c
    · exact absurd c a
    · exact .inl c
  · exact .inr ⟨fun c => (h.neg c y.1).elim b a, Nat.lt_trans a' b'⟩
theorem zlt_of_lt {x y : α × Nat} (a : lt x.1 y.1) : zlt lt x y := .inl a
/-- a later one is before an earlier one just where its thing is less -/
theorem zlt_late {x y : α × Nat} (hi : y.2 < x.2) : zlt lt x y ↔ lt x.1 y.1 :=
  ⟨fun a => a.elim id fun ⟨_, b⟩ => absurd b (by omega), .inl⟩
theorem zlt_early {x y : α × Nat} (hi : y.2 < x.2) (a : ¬ lt x.1 y.1) : zlt lt y x := .inr ⟨a, hi⟩

/-- sorted, as pairs -/
def Srt (lt : α → α → Prop) (l : List (α × Nat)) : Prop := l.Pairwise (zlt lt)
/-- all of the first list stood ahead of all of the second -/
def Ahead (l r : List (α × Nat)) : Prop := ∀ y, y ∈ l → ∀ x, x ∈ r → y.2 < x.2

theorem nth_pair [Inhabited α] {l : List (α × Nat)} (h : Srt lt l) {i j : Nat} (hij : i < j) (hj : j < l.length) : zlt lt (nth l i) (nth l j) := by
  rw [nth_eq (by omega), nth_eq hj]
  exact List.pairwise_iff_getElem.1 h i j (by omega) hj hij
theorem Srt.append {l r : List (α × Nat)} (hl : Srt lt l) (hr : Srt lt r) (h : ∀ y, y ∈ l → ∀ x, x ∈ r → zlt lt y x) : Srt lt (l ++ r) :=
  List.pairwise_append.2 ⟨hl, hr, h⟩
theorem Srt.left {l r : List (α × Nat)} (h : Srt lt (l ++ r)) : Srt lt l := (List.pairwise_append.1 h).1
theorem Srt.right {l r : List (α × Nat)} (h : Srt lt (l ++ r)) : Srt lt r := (List.pairwise_append.1 h).2.1
theorem Srt.cross {l r : List (α × Nat)} (h : Srt lt (l ++ r)) : ∀ y, y ∈ l → ∀ x, x ∈ r → zlt lt y x := (List.pairwise_append.1 h).2.2

/-- what a merge of l and r is -/
def Merged (lt : α → α → Prop) (l r s : List (α × Nat)) : Prop := s.Perm (l ++ r) ∧ Srt lt s

theorem Merged.nil_left {r : List (α × Nat)} (h : Srt lt r) : Merged lt [] r r := ⟨by simp, h⟩
theorem Merged.nil_right {l : List (α × Nat)} (h : Srt lt l) : Merged lt l [] l := ⟨by simp, h⟩
theorem Merged.mem {l r s : List (α × Nat)} (h : Merged lt l r s) {x : α × Nat} (hx : x ∈ s) : x ∈ l ∨ x ∈ r := by
  have := h.1.mem_iff.1 hx; simpa using this
/-- two halves, all of the first before all of the second -/
theorem Merged.halves {l1 l2 r1 r2 s1 s2 : List (α × Nat)} (h1 : Merged lt l1 r1 s1) (h2 : Merged lt l2 r2 s2)
    (h : ∀ y, y ∈ l1 ∨ y ∈ r1 → ∀ x, x ∈ l2 ∨ x ∈ r2 → zlt lt y x) : Merged lt (l1 ++ l2) (r1 ++ r2) (s1 ++ s2) := by
  refine ⟨?_, Srt.append h1.2 h2.2 fun y hy x hx => h y (h1.mem hy) x (h2.mem hx)⟩
  refine (h1.1.append h2.1).trans ?_
  simp only [List.append_assoc]
  refine List.Perm.append_left _ ?_
  rw [← List.append_assoc, ← List.append_assoc]
  exact List.Perm.append_right _ List.perm_append_comm
end

/-- two elements change places -/
def swp {α : Type} [Inhabited α] (xs : List α) (i j : Nat) : List α := (xs.set i (nth xs j)).set j (nth xs i)
def swapR {α : Type} [Inhabited α] (xs : List α) (a b : Nat) : Nat → List α
  | 0 => xs
  | k + 1 => swp (swapR xs a b k) (a + k) (b + k)
section
variable {α : Type} [Inhabited α]
theorem swp_length (xs : List α) (i j : Nat) : (swp xs i j).length = xs.length := by simp [swp]
theorem swapR_length (xs : List α) (a b k : Nat) : (swapR xs a b k).length = xs.length := by
  induction k with
  | zero => rfl
  | succ k ih => rw [swapR, swp_length, ih]
theorem nth_append (xs ys : List α) (j : Nat) : nth (xs ++ ys) j = if j < xs.length then nth xs j else nth ys (j - xs.length) := by
  split
  · exact nth_append_left (by omega)
  · exact nth_append_right (by omega)
theorem nth_swp (xs : List α) (i j k : Nat) (hi : i < xs.length) (hj : j < xs.length) :
    nth (swp xs i j) k = if k = j then nth xs i else if k = i then nth xs j else nth xs k := by
  unfold swp
  by_cases h1 : k = j
  · subst h1; rw [if_pos rfl, nth_set_same (by simpa using hj)]
  · rw [if_neg h1, nth_set_other (by omega)]
    by_cases h2 : k = i
    · subst h2; rw [if_pos rfl, nth_set_same hi]
    · rw [if_neg h2, nth_set_other (by omega)]
theorem nth_swapR (xs : List α) (a b n : Nat) (h : a + n ≤ b) (hb : b + n ≤ xs.length) (k : Nat) :
    nth (swapR xs a b n) k = if a ≤ k ∧ k < a + n then nth xs (b + (k - a)) else if b ≤ k ∧ k < b + n then nth xs (a + (k - b)) else nth xs k := by
  induction n generalizing k with
  | zero => rw [if_neg (by omega), if_neg (by omega)]; rfl
  | succ n ih =>
    have ih := ih (by omega) (by omega)
    rw [swapR, nth_swp _ _ _ _ (by rw [swapR_length]; omega) (by rw [swapR_length]; omega), ih (a + n), ih (b + n), ih k]
    by_cases h1 : k = b + n
    · subst h1
      rw [if_pos rfl, if_neg (by omega), if_neg (by omega), if_neg (by omega), if_pos (by omega)]
      congr 1; omega
    · rw [if_neg h1]
      by_cases h2 : k = a + n
      · subst h2
        rw [if_pos rfl, if_neg (by omega), if_neg (by omega), if_pos (by omega)]
        congr 1; omega
      · rw [if_neg h2]
        by_cases h3 : a ≤ k ∧ k < a + n
        · rw [if_pos h3, if_pos (by omega)]
        · rw [if_neg h3]
          by_cases h4 : b ≤ k ∧ k < b + n
          · rw [if_pos h4, if_neg (by omega), if_pos (by omega)]
          · rw [if_neg h4, if_neg (by omega), if_neg (by omega)]
/-- two pieces of one length change places -/
theorem swapR_split (P X M Y Q : List α) (h : X.length = Y.length) :
    swapR (P ++ X ++ M ++ Y ++ Q) P.length (P.length + X.length + M.length) X.length = P ++ Y ++ M ++ X ++ Q := by
  refine nth_ext (by rw [swapR_length]; simp; omega) fun k _ => ?_
  rw [nth_swapR _ _ _ _ (by omega) (by simp; omega)]
  simp only [List.append_assoc, nth_append]
  repeat' split
  all_goals first | omega | rfl | (congr 1; omega)
theorem nth_mid {P : List α} {x : α} {Q : List α} {k : Nat} (h : k = P.length) : nth (P ++ x :: Q) k = x := by
  subst h; rw [nth_append_right (Nat.le_refl _)]; simp [nth]
theorem nth_mid1 {P : List α} {x y : α} {Q : List α} {k : Nat} (h : k = P.length + 1) : nth (P ++ x :: y :: Q) k = y := by
  subst h; rw [nth_append_right (by omega)]; simp [nth, Nat.add_sub_cancel_left]
end
section
variable {α : Type}
theorem set_mid {P : List α} {x y v u : α} {Q : List α} {k : Nat} (h : k = P.length) : ((P ++ x :: y :: Q).set (k + 1) v).set k u = P ++ u :: v :: Q := by
  subst h; rw [List.set_append_right _ _ (by omega)]; simp
theorem set_mid' {P : List α} {x y v u : α} {Q : List α} {k : Nat} (h : k = P.length) : ((P ++ x :: y :: Q).set k u).set (k + 1) v = P ++ u :: v :: Q := by
  subst h; rw [List.set_append_right _ _ (by omega)]; simp
end

/-- the piece of a list from a place on -/
def seg {α : Type} (xs : List α) (a l : Nat) : List α := (xs.drop a).take l
section
variable {α : Type}
theorem seg_length {xs : List α} {a l : Nat} (h : a + l ≤ xs.length) : (seg xs a l).length = l := by simp [seg]; omega
theorem seg_split (xs : List α) (a l r : Nat) : seg xs a (l + r) = seg xs a l ++ seg xs (a + l) r := by
  simp only [seg, List.take_add, List.drop_drop]
theorem seg_all {xs : List α} {l : Nat} (h : xs.length ≤ l) : seg xs 0 l = xs := by simp [seg, List.take_of_length_le h]
theorem seg_full {xs : List α} {a l : Nat} (h : xs.length ≤ a + l) : seg xs a l = xs.drop a := by
  simp only [seg]; exact List.take_of_length_le (by simp; omega)
theorem split3 (xs : List α) (a l : Nat) : xs = xs.take a ++ seg xs a l ++ xs.drop (a + l) := by
  rw [seg, List.append_assoc, ← List.drop_drop, List.take_append_drop, List.take_append_drop]
/-- another piece of it is as it was: ahead -/
theorem seg_before {xs s : List α} {a l : Nat} (ha : a ≤ xs.length) {c k : Nat} (h : c + k ≤ a) : seg (xs.take a ++ s ++ xs.drop (a + l)) c k = seg xs c k := by
  simp only [seg, List.append_assoc]
  rw [List.drop_append, List.take_append, List.drop_take, List.take_take, Nat.min_eq_left (by omega)]
  have : k - ((xs.drop c).take (a - c)).length = 0 := by simp; omega
  rw [this]; simp
/-- .. behind -/
theorem seg_after {xs s : List α} {a l : Nat} (hl : a + l ≤ xs.length) (hs : s.length = l) {c k : Nat} (h : a + l ≤ c) : seg (xs.take a ++ s ++ xs.drop (a + l)) c k = seg xs c k := by
  simp only [seg]
  rw [List.drop_append, List.drop_of_length_le (by simp; omega), List.nil_append, List.drop_drop]
  congr 2
  simp
  omega
theorem seg_here {xs s : List α} {a l : Nat} (ha : a ≤ xs.length) (hs : s.length = l) : seg (xs.take a ++ s ++ xs.drop (a + l)) a l = s := by
  simp only [seg, List.append_assoc]
  rw [List.drop_append, List.drop_of_length_le (by simp; omega)]
  simp only [List.nil_append, List.length_take, Nat.min_eq_left ha, Nat.sub_self, List.drop_zero]
  rw [List.take_append_of_le_length (by omega), List.take_of_length_le (by omega)]
end

section
variable {α : Type} {lt : α → α → Prop}
/-- the piece of cur is the piece of zs, sorted -/
def Good (lt : α → α → Prop) (zs cur : List (α × Nat)) (a l : Nat) : Prop := (seg cur a l).Perm (seg zs a l) ∧ Srt lt (seg cur a l)
/-- the places rise -/
def Ups (zs : List (α × Nat)) : Prop := zs.Pairwise (fun x y => x.2 < y.2)
theorem Ups.seg {zs : List (α × Nat)} (h : Ups zs) (a l : Nat) : Ups (seg zs a l) :=
  List.Pairwise.sublist ((List.take_sublist _ _).trans (List.drop_sublist _ _)) h
theorem Good.ahead {zs cur : List (α × Nat)} (hu : Ups zs) {a l r : Nat} (h1 : Good lt zs cur a l) (h2 : Good lt zs cur (a + l) r) : Ahead (seg cur a l) (seg cur (a + l) r) := by
  have h := hu.seg a (l + r)
  rw [seg_split] at h
  intro y hy x hx
  exact (List.pairwise_append.1 h).2.2 y (h1.1.mem_iff.1 hy) x (h2.1.mem_iff.1 hx)
theorem Good.merge {zs cur : List (α × Nat)} {a l r : Nat} (h1 : Good lt zs cur a l) (h2 : Good lt zs cur (a + l) r) (hl : a + (l + r) ≤ cur.length) {s : List (α × Nat)}
    (hm : Merged lt (seg cur a l) (seg cur (a + l) r) s) : Good lt zs (cur.take a ++ s ++ cur.drop (a + (l + r))) a (l + r) := by
  have hs : s.length = l + r := by rw [hm.1.length_eq, List.length_append, seg_length (by omega), seg_length (by omega)]
  unfold Good
  rw [seg_here (by omega) hs]
  refine ⟨?_, hm.2⟩
  rw [seg_split]
  exact hm.1.trans (h1.1.append h2.1)
theorem Good.before {zs cur s : List (α × Nat)} {a l c k : Nat} (h : Good lt zs cur c k) (ha : a ≤ cur.length) (hc : c + k ≤ a) : Good lt zs (cur.take a ++ s ++ cur.drop (a + l)) c k := by
  unfold Good at *; rwa [seg_before ha hc]
theorem Good.after {zs cur s : List (α × Nat)} {a l c k : Nat} (h : Good lt zs cur c k) (hl : a + l ≤ cur.length) (hs : s.length = l) (hc : a + l ≤ c) : Good lt zs (cur.take a ++ s ++ cur.drop (a + l)) c k := by
  unfold Good at *; rwa [seg_after hl hs hc]
end

/-- of two multiples the lesser one is not above the other by less than one step -/
theorem dvd_same {s a b : Nat} (ha : s ∣ a) (hb : s ∣ b) (h1 : b ≤ a) (h2 : a < b + s) : a = b := by
  have h := Nat.eq_zero_of_dvd_of_lt (Nat.dvd_sub ha hb) (by omega)
  omega
section
variable {α : Type} {lt : α → α → Prop}
/-- each block of bs is sorted -/
def Blocks (lt : α → α → Prop) (zs cur : List (α × Nat)) (bs : Nat) : Prop := ∀ a, bs ∣ a → Good lt zs cur a bs
theorem Good.beyond {zs cur : List (α × Nat)} (h : cur.length = zs.length) {a l : Nat} (ha : zs.length ≤ a) : Good lt zs cur a l := by
  unfold Good seg
  rw [List.drop_of_length_le (by omega), List.drop_of_length_le ha]
  exact ⟨by simp, by simp [Srt]⟩
theorem Good.longer {zs cur : List (α × Nat)} (h : cur.length = zs.length) {a l l' : Nat} (hg : Good lt zs cur a l) (ha : zs.length ≤ a + l) (hl : l ≤ l') : Good lt zs cur a l' := by
  unfold Good at *
  rw [seg_full (by omega), seg_full (by omega)] at *
  exact hg
theorem Good.start {zs : List (α × Nat)} {cur : List (α × Nat)} {a l : Nat} (hd : cur.drop a = zs.drop a) (ha : a + l ≤ zs.length) {s : List (α × Nat)} (hl : cur.length = zs.length)
    (hp : s.Perm (seg cur a l)) (hs : Srt lt s) : Good lt zs (cur.take a ++ s ++ cur.drop (a + l)) a l := by
  unfold Good
  rw [seg_here (by omega) (by rw [hp.length_eq, seg_length (by omega)])]
  refine ⟨?_, hs⟩
  unfold seg at *
  rw [← hd]; exact hp
theorem put_length {xs s : List (α × Nat)} {a l : Nat} (h : a + l ≤ xs.length) (hs : s.length = l) : (xs.take a ++ s ++ xs.drop (a + l)).length = xs.length := by simp; omega
/-- the state of a pass that merges blocks of bs by two: merged up to a -/
structure Pass (lt : α → α → Prop) (zs cur : List (α × Nat)) (bs a : Nat) : Prop where
  len : cur.length = zs.length
  dvd : bs + bs ∣ a
  le : a ≤ zs.length
  done : ∀ c, bs + bs ∣ c → c + (bs + bs) ≤ a → Good lt zs cur c (bs + bs)
  todo : ∀ c, bs ∣ c → a ≤ c → Good lt zs cur c bs
theorem Pass.start {zs cur : List (α × Nat)} {bs : Nat} (h : Blocks lt zs cur bs) (hl : cur.length = zs.length) (hb : 0 < bs) : Pass lt zs cur bs 0 :=
  ⟨hl, Nat.dvd_zero _, Nat.zero_le _, fun c _ h => by omega, fun c hc _ => h c hc⟩
theorem Pass.step {zs cur : List (α × Nat)} {bs a : Nat} (h : Pass lt zs cur bs a) (hb : 0 < bs) (hn : a + (bs + bs) ≤ zs.length) {s : List (α × Nat)}
    (hm : Merged lt (seg cur a bs) (seg cur (a + bs) bs) s) : Pass lt zs (cur.take a ++ s ++ cur.drop (a + (bs + bs))) bs (a + (bs + bs)) := by
  have hl := h.len
  have hs : s.length = bs + bs := by rw [hm.1.length_eq, List.length_append, seg_length (by omega), seg_length (by omega)]
  have hbs : bs ∣ bs + bs := Nat.dvd_add (Nat.dvd_refl _) (Nat.dvd_refl _)
  have hba : bs ∣ a := Nat.dvd_trans hbs h.dvd
  refine ⟨by rw [put_length (by omega) hs, hl], Nat.dvd_add h.dvd (Nat.dvd_refl _), hn, fun c hc hca => ?_, fun c hc hca => ?_⟩
  · by_cases e : c + (bs + bs) ≤ a
    · exact (h.done c hc e).before (by omega) e
    · obtain rfl : a = c := dvd_same h.dvd hc (by omega) (by omega)
      exact Good.merge (h.todo a hba (Nat.le_refl _)) (h.todo (a + bs) (Nat.dvd_add hba (Nat.dvd_refl _)) (by omega)) (by omega) hm
  · exact (h.todo c hc (by omega)).after (by omega) hs hca
/-- the end of a pass: the last block is alone, or two are left, the second one short -/
theorem Pass.last_one {zs cur : List (α × Nat)} {bs a : Nat} (h : Pass lt zs cur bs a) (hb : 0 < bs) (hn : zs.length ≤ a + bs) : Blocks lt zs cur (bs + bs) := by
  have hbs : bs ∣ bs + bs := Nat.dvd_add (Nat.dvd_refl _) (Nat.dvd_refl _)
  intro c hc
  by_cases e : c + (bs + bs) ≤ a
  · exact h.done c hc e
  · by_cases e2 : c ≤ a
    · obtain rfl : a = c := dvd_same h.dvd hc e2 (by omega)
      exact (h.todo a (Nat.dvd_trans hbs h.dvd) (Nat.le_refl _)).longer h.len hn (by omega)
    · refine Good.beyond h.len ?_
      have : ¬ c < a + (bs + bs) := fun e3 => by
        have := dvd_same hc h.dvd (by omega) e3
        omega
      omega
theorem Pass.last_two {zs cur : List (α × Nat)} {bs a r : Nat} (h : Pass lt zs cur bs a) (hb : 0 < bs) (hr : a + bs + r = zs.length) (hrb : r ≤ bs) {s : List (α × Nat)}
    (hm : Merged lt (seg cur a bs) (seg cur (a + bs) r) s) : Blocks lt zs (cur.take a ++ s ++ cur.drop (a + (bs + r))) (bs + bs) ∧ (cur.take a ++ s ++ cur.drop (a + (bs + r))).length = zs.length := by
  have hl := h.len
  have hs : s.length = bs + r := by rw [hm.1.length_eq, List.length_append, seg_length (by omega), seg_length (by omega)]
  have hbs : bs ∣ bs + bs := Nat.dvd_add (Nat.dvd_refl _) (Nat.dvd_refl _)
  have hba : bs ∣ a := Nat.dvd_trans hbs h.dvd
  have hlen : (cur.take a ++ s ++ cur.drop (a + (bs + r))).length = zs.length := by rw [put_length (by omega) hs, hl]
  refine ⟨fun c hc => ?_, hlen⟩
  by_cases e : c + (bs + bs) ≤ a
  · exact (h.done c hc e).before (by omega) e
  · by_cases e2 : c ≤ a
    · obtain rfl : a = c := dvd_same h.dvd hc e2 (by omega)
      have h2 : Good lt zs cur (a + bs) r := by
        have h3 := h.todo (a + bs) (Nat.dvd_add hba (Nat.dvd_refl _)) (by omega)
        unfold Good at h3 ⊢
        rw [seg_full (by omega), seg_full (by omega)] at h3 ⊢
        exact h3
      exact (Good.merge (h.todo a hba (Nat.le_refl _)) h2 (by omega) hm).longer hlen (by omega) (by omega)
    · refine Good.beyond hlen ?_
      have : ¬ c < a + (bs + bs) := fun e3 => by
        have := dvd_same hc h.dvd (by omega) e3
        omega
      omega
theorem Blocks.whole {zs cur : List (α × Nat)} {bs : Nat} (h : Blocks lt zs cur bs) (hl : cur.length = zs.length) (hb : zs.length ≤ bs) : cur.Perm zs ∧ Srt lt cur := by
  have h := h 0 (Nat.dvd_zero _)
  unfold Good at h
  rwa [seg_all (by omega), seg_all hb] at h
end
end Go.Proofs.Ytgmchedfgdgenaa
