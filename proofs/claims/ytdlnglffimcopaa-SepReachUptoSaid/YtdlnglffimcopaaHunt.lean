/- Plain law: a hunt through all open trails: what it has come to, and the least trail to a point. No condition. -/
import Derived.Test.YtdlnglffimcopaaBall
import Derived.Test.YtdlnglffimcopaaClos
namespace Go.Proofs.Ytdlnglffimcopaa

/-- the first difference decides -/
def lexL : List Nat → List Nat → Bool
  | x :: a, y :: b => if x = y then lexL a b else decide (x < y)
  | _, _ => false
/-- shorter, or as long and less -/
def lessL (a b : List Nat) : Bool := if a.length = b.length then lexL a b else decide (a.length < b.length)
theorem lexL_trans : ∀ {a b c : List Nat}, lexL a b = true → lexL b c = true → lexL a c = true
  | [], _, _, h, _ => by simp [lexL] at h
  | x :: a, [], _, h, _ => by simp [lexL] at h
  | x :: a, y :: b, [], _, h => by simp [lexL] at h
  | x :: a, y :: b, z :: c, h1, h2 => by
    unfold lexL at h1 h2 ⊢
    by_cases e1 : x = y
    · subst e1
      rw [if_pos rfl] at h1
      by_cases e2 : x = z
      · subst e2; rw [if_pos rfl] at h2 ⊢; exact lexL_trans h1 h2
      · rw [if_neg e2] at h2 ⊢; exact h2
    · rw [if_neg e1, decide_eq_true_eq] at h1
      by_cases e2 : y = z
      · subst e2; rw [if_neg e1, decide_eq_true_eq]; exact h1
      · rw [if_neg e2, decide_eq_true_eq] at h2
        rw [if_neg (by omega), decide_eq_true_eq]; omega
theorem lexL_irr : ∀ a : List Nat, lexL a a = false
  | [] => rfl
  | x :: a => by unfold lexL; rw [if_pos rfl]; exact lexL_irr a
theorem lessL_irr (a : List Nat) : lessL a a = false := by unfold lessL; rw [if_pos rfl]; exact lexL_irr a
theorem lessL_trans {a b c : List Nat} (h1 : lessL a b = true) (h2 : lessL b c = true) : lessL a c = true := by
  unfold lessL at h1 h2 ⊢
  by_cases e1 : a.length = b.length
  · rw [if_pos e1] at h1
    by_cases e2 : b.length = c.length
    · rw [if_pos e2] at h2; rw [if_pos (by omega)]; exact lexL_trans h1 h2
    · rw [if_neg e2, decide_eq_true_eq] at h2
      rw [if_neg (by omega), decide_eq_true_eq]; omega
  · rw [if_neg e1, decide_eq_true_eq] at h1
    by_cases e2 : b.length = c.length
    · rw [if_neg (by omega), decide_eq_true_eq]; omega
    · rw [if_neg e2, decide_eq_true_eq] at h2
      rw [if_neg (by omega), decide_eq_true_eq]; omega
/-- of trails P (the last point first) that were gone through: the points come to; the least one to a point -/
structure Hst (to : Int) (Z : Nat → Prop) (P : List Nat → Prop) (L : List Bool) (b : Option (List Nat)) : Prop where
  came : ∀ x, nth L x = true ↔ ∃ l, P (x :: l) ∧ ¬ Z x
  bnone : b = none → ∀ x l, P (x :: l) → ¬ Z x → (x : Int) ≠ to
  bsome : ∀ t, b = some t → (∃ x l, P (x :: l) ∧ ¬ Z x ∧ (x : Int) = to ∧ t = (x :: l).reverse) ∧ ∀ x l, P (x :: l) → ¬ Z x → (x : Int) = to → lessL (x :: l).reverse t = false
section
variable {to : Int} {Z : Nat → Prop} {P Q : List Nat → Prop} {L : List Bool} {b : Option (List Nat)} {x : Nat} {l : List Nat}
theorem Hst.congr (h : Hst to Z P L b) (e : ∀ l, P l ↔ Q l) : Hst to Z Q L b := by
  have : P = Q := funext fun l => propext (e l)
  rw [← this]; exact h
theorem Hst.none (n : Nat) : Hst to Z (fun _ => False) (List.replicate n false) none := by
  refine ⟨fun x => ⟨fun h => ?_, fun ⟨_, h, _⟩ => h.elim⟩, fun _ _ _ h => h.elim, fun t e => by cases e⟩
  rcases Nat.lt_or_ge x n with h1 | h1
  · rw [nth_eq (by simpa using h1)] at h; simp at h
  · have : nth (List.replicate n false) x = false := by simp [nth, List.getD, h1]
    rw [this] at h; cases h
theorem Hst.given (h : Hst to Z P L b) (hz : Z x) : Hst to Z (fun l' => P l' ∨ l' = x :: l) L b := by
  have e : ∀ y m, (P (y :: m) ∨ y :: m = x :: l) ∧ ¬ Z y → P (y :: m) := fun y m ⟨hp, hn⟩ => by
    rcases hp with hp | hp
    · exact hp
    · injection hp with e1 e2; subst e1; exact absurd hz hn
  refine ⟨fun y => ?_, fun e0 y m hp hn => h.bnone e0 y m (e y m ⟨hp, hn⟩) hn, fun t e0 => ?_⟩
  · rw [h.came]
    exact ⟨fun ⟨m, h1, h2⟩ => ⟨m, .inl h1, h2⟩, fun ⟨m, h1, h2⟩ => ⟨m, e y m ⟨h1, h2⟩, h2⟩⟩
  · obtain ⟨⟨y, m, h1, h2, h3, h4⟩, h5⟩ := h.bsome t e0
    exact ⟨⟨y, m, .inl h1, h2, h3, h4⟩, fun y m hp hn ht => h5 y m (e y m ⟨hp, hn⟩) hn ht⟩
theorem Hst.cameNew (h : Hst to Z P L b) (hz : ¬ Z x) (hx : x < L.length) (y : Nat) : nth (L.set x true) y = true ↔ ∃ m, (P (y :: m) ∨ y :: m = x :: l) ∧ ¬ Z y := by
  rw [nth_setB hx, Bool.or_eq_true, decide_eq_true_eq, h.came]
  constructor
  · rintro (rfl | ⟨m, h1, h2⟩)
    · exact ⟨l, .inr rfl, hz⟩
    · exact ⟨m, .inl h1, h2⟩
  · rintro ⟨m, h1 | h1, h2⟩
    · exact .inr ⟨m, h1, h2⟩
    · injection h1 with e1 e2; exact .inl e1
/-- a trail to another point -/
theorem Hst.other (h : Hst to Z P L b) (hz : ¬ Z x) (hx : x < L.length) (ht : (x : Int) ≠ to) : Hst to Z (fun l' => P l' ∨ l' = x :: l) (L.set x true) b := by
  have e : ∀ y m, (P (y :: m) ∨ y :: m = x :: l) → (y : Int) = to → P (y :: m) := fun y m hp hy => by
    rcases hp with hp | hp
    · exact hp
    · injection hp with e1 e2; subst e1; exact absurd hy ht
  refine ⟨h.cameNew hz hx, fun e0 y m hp hn hy => h.bnone e0 y m (e y m hp hy) hn hy, fun t e0 => ?_⟩
  obtain ⟨⟨y, m, h1, h2, h3, h4⟩, h5⟩ := h.bsome t e0
  exact ⟨⟨y, m, .inl h1, h2, h3, h4⟩, fun y m hp hn hy => h5 y m (e y m hp hy) hn hy⟩
/-- the first trail to it, or a less one -/
theorem Hst.better (h : Hst to Z P L b) (hz : ¬ Z x) (hx : x < L.length) (ht : (x : Int) = to) (hb : ∀ t, b = some t → lessL (x :: l).reverse t = true) : Hst to Z (fun l' => P l' ∨ l' = x :: l) (L.set x true) (some (x :: l).reverse) := by
  refine ⟨h.cameNew hz hx, fun e0 => (by cases e0), fun t e0 => ?_⟩
  injection e0 with e0
  subst e0
  refine ⟨⟨x, l, .inr rfl, hz, ht, rfl⟩, fun y m hp hn hy => ?_⟩
  rcases hp with hp | hp
  · cases b with
    | none => exact absurd hy (h.bnone rfl y m hp hn)
    | some t =>
      cases hl : lessL (y :: m).reverse (x :: l).reverse
      · rfl
      · have := lessL_trans hl (hb t rfl)
        rw [(h.bsome t rfl).2 y m hp hn hy] at this; cases this
  · injection hp with e1 e2; subst e1 e2; exact lessL_irr _
/-- .. or one that is no less -/
theorem Hst.worse (h : Hst to Z P L b) (hz : ¬ Z x) (hx : x < L.length) {t : List Nat} (hb : b = some t) (hw : lessL (x :: l).reverse t = false) : Hst to Z (fun l' => P l' ∨ l' = x :: l) (L.set x true) b := by
  obtain ⟨⟨y, m, h1, h2, h3, h4⟩, h5⟩ := h.bsome t hb
  refine ⟨h.cameNew hz hx, fun e0 => (by rw [hb] at e0; cases e0), fun t' e0 => ?_⟩
  rw [hb] at e0; injection e0 with e0; subst e0
  refine ⟨⟨y, m, .inl h1, h2, h3, h4⟩, fun y m hp hn hy => ?_⟩
  rcases hp with hp | hp
  · exact h5 y m hp hn hy
  · rw [hp]; exact hw
end
section
variable {G : List (List Nat)} {Z Ab : Nat → Prop} {a : Nat}
/-- what a trail goes on to -/
def Ext (G : List (List Nat)) (Z Ab : Nat → Prop) (a : Nat) (l l' : List Nat) : Prop := Trl G Z Ab a l' ∧ ∃ e, l' = e ++ l
/-- .. by the points below k -/
def Part (G : List (List Nat)) (Z Ab : Nat → Prop) (a : Nat) (l : List Nat) (k : Nat) (l' : List Nat) : Prop := Trl G Z Ab a l' ∧ (l' = l ∨ ∃ e m, m < k ∧ l' = e ++ m :: l)
theorem Trl.ne {l : List Nat} (h : Trl G Z Ab a l) : l ≠ [] := by cases h <;> simp
theorem Trl.tail {n : Nat} {l : List Nat} (h : Trl G Z Ab a (n :: l)) (hl : l ≠ []) : Trl G Z Ab a l := by
  cases h with
  | one => exact absurd rfl hl
  | two => exact .one
  | more h => exact h
theorem Trl.suffix : ∀ {e l : List Nat}, Trl G Z Ab a (e ++ l) → l ≠ [] → Trl G Z Ab a l
  | [], _, h, _ => h
  | x :: e, l, h, hl => Trl.suffix (e := e) (h.tail (by simp [hl])) hl
theorem Trl.nodup {l : List Nat} (h : Trl G Z Ab a l) : l.Nodup := by
  induction h with
  | one => simp
  | two _ _ hn => rw [List.nodup_cons]; exact ⟨hn, by simp⟩
  | more _ _ _ hn _ ih => rw [List.nodup_cons]; exact ⟨hn, ih⟩
theorem Trl.lt {l : List Nat} (h : Trl G Z Ab a l) (ha : a < G.length) : ∀ x, x ∈ l → x < G.length := by
  induction h with
  | one => simpa using ha
  | two hn _ _ => intro x hx; rcases List.mem_cons.1 hx with rfl | hx; exact hn; rw [List.mem_singleton] at hx; subst hx; exact ha
  | more _ hn _ _ _ ih => intro x hx; rcases List.mem_cons.1 hx with rfl | hx; exact hn; exact ih x hx
theorem Trl.length_le {l : List Nat} (h : Trl G Z Ab a l) (ha : a < G.length) : l.length ≤ G.length := nodup_lt_length h.nodup (h.lt ha)
theorem part_zero {l : List Nat} (h : Trl G Z Ab a l) (l' : List Nat) : Part G Z Ab a l 0 l' ↔ l' = l :=
  ⟨fun ⟨_, h2⟩ => h2.elim id fun ⟨_, m, hm, _⟩ => by omega, fun e => ⟨by rw [e]; exact h, .inl e⟩⟩
theorem part_succ {l : List Nat} {k : Nat} (l' : List Nat) : Part G Z Ab a l (k + 1) l' ↔ Part G Z Ab a l k l' ∨ Ext G Z Ab a (k :: l) l' := by
  unfold Part Ext
  constructor
  · rintro ⟨h1, rfl | ⟨e, m, hm, rfl⟩⟩
    · exact .inl ⟨h1, .inl rfl⟩
    · rcases Nat.lt_or_ge m k with h2 | h2
      · exact .inl ⟨h1, .inr ⟨e, m, h2, rfl⟩⟩
      · obtain rfl : m = k := by omega
        exact .inr ⟨h1, e, rfl⟩
  · rintro (⟨h1, rfl | ⟨e, m, hm, rfl⟩⟩ | ⟨h1, e, rfl⟩)
    · exact ⟨h1, .inl rfl⟩
    · exact ⟨h1, .inr ⟨e, m, by omega, rfl⟩⟩
    · exact ⟨h1, .inr ⟨e, k, by omega, rfl⟩⟩
theorem part_skip {l : List Nat} {k : Nat} (hn : ¬ Trl G Z Ab a (k :: l)) (l' : List Nat) : Part G Z Ab a l (k + 1) l' ↔ Part G Z Ab a l k l' := by
  rw [part_succ]
  refine ⟨fun h => h.elim id ?_, .inl⟩
  rintro ⟨h1, e, rfl⟩
  exact absurd (h1.suffix (by simp)) hn
theorem part_all {l : List Nat} (hl : l ≠ []) (l' : List Nat) : Part G Z Ab a l G.length l' ↔ Ext G Z Ab a l l' := by
  unfold Part Ext
  constructor
  · rintro ⟨h1, rfl | ⟨e, m, _, rfl⟩⟩
    · exact ⟨h1, [], rfl⟩
    · exact ⟨h1, e ++ [m], by simp⟩
  · rintro ⟨h1, e, rfl⟩
    refine ⟨h1, ?_⟩
    rcases List.eq_nil_or_concat e with rfl | ⟨e, m, rfl⟩
    · exact .inl rfl
    · right
      refine ⟨e, m, ?_, by simp⟩
      have h2 : Trl G Z Ab a (m :: l) := by
        have : e.concat m ++ l = e ++ (m :: l) := by simp
        rw [this] at h1
        exact h1.suffix (by simp)
      cases h2 with
      | one => exact absurd rfl hl
      | two h _ _ => exact h
      | more _ h _ _ _ => exact h
/-- may a trail go on to a point? -/
def Can (G : List (List Nat)) (Z Ab : Nat → Prop) (x : Nat) (l : List Nat) (n : Nat) : Prop := (n ∈ nth G x ∨ x ∈ nth G n) ∧ n ∉ x :: l ∧ (match l with | [] => True | q :: _ => Opn G Z Ab q x n)
theorem trl_can {x n : Nat} {l : List Nat} (h : Trl G Z Ab a (x :: l)) (hn : n < G.length) : Trl G Z Ab a (n :: x :: l) ↔ Can G Z Ab x l n := by
  unfold Can
  cases l with
  | nil =>
    obtain rfl : x = a := by cases h; rfl
    constructor
    · intro h2; cases h2 with | two h3 h4 h5 => exact ⟨h4, h5, trivial⟩
    · rintro ⟨h4, h5, _⟩; exact .two hn h4 h5
  | cons q l =>
    constructor
    · intro h2; cases h2 with | more h3 h4 h5 h6 h7 => exact ⟨h5, h6, h7⟩
    · rintro ⟨h4, h5, h6⟩; exact .more h hn h4 h5 h6
/-- all trails -/
theorem ext_one (l' : List Nat) : Ext G Z Ab a [a] l' ↔ Trl G Z Ab a l' := by
  refine ⟨fun h => h.1, fun h => ⟨h, ?_⟩⟩
  induction h with
  | one => exact ⟨[], rfl⟩
  | two => exact ⟨[_], rfl⟩
  | more _ _ _ _ _ ih => obtain ⟨e, he⟩ := ih; exact ⟨_ :: e, by rw [he]; rfl⟩
end
end Go.Proofs.Ytdlnglffimcopaa
