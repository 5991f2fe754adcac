/- Plain law: passes over all points, each telling its parents, come to all that is above. No condition. -/
import Derived.Test.YtdlnglffimcopaaLists
import Derived.Test.YtdlnglffimcopaaOwn
namespace Go.Proofs.Ytdlnglffimcopaa

theorem nth_setB {L : List Bool} {p x : Nat} (hp : p < L.length) : nth (L.set p true) x = (decide (x = p) || nth L x) := by
  by_cases h : x = p
  · subst h; rw [nth_set_same hp]; simp
  · rw [nth_set_other (fun e => h e.symm)]; simp [h]
/-- a pass on its way: L0 was marked ahead of it, L is now; the points below v are done, of v the first k parents -/
structure PassU (G : List (List Nat)) (S : Nat → Prop) (L0 L : List Bool) (v k : Nat) : Prop where
  len : L.length = G.length
  le : ∀ x, nth L0 x = true → nth L x = true
  sound : ∀ x, nth L x = true → Up G S x
  prev : ∀ v', v' < v → nth L0 v' = true → ∀ p, p ∈ nth G v' → nth L p = true
  cur : ∀ j, j < k → nth L (nth (nth G v) j) = true
section
variable {G : List (List Nat)} {S : Nat → Prop} {L0 L : List Bool} {v k i : Nat}
theorem PassU.begin (hl : L.length = G.length) (hs : ∀ x, nth L x = true → Up G S x) : PassU G S L L 0 0 := ⟨hl, fun _ h => h, hs, fun v' h => by omega, fun j h => by omega⟩
theorem PassU.mark (h : PassU G S L0 L v k) (hg : GoodG G) (hv : v < G.length) (hk : k < (nth G v).length) (hm : nth L v = true) : PassU G S L0 (L.set (nth (nth G v) k) true) v (k + 1) := by
  have hp : nth (nth G v) k < L.length := by rw [h.len]; exact hg v hv _ (nth_mem hk)
  have hup : Up G S (nth (nth G v) k) := .step (h.sound v hm) (nth_mem hk)
  have hle : ∀ x, nth L x = true → nth (L.set (nth (nth G v) k) true) x = true := fun x hx => by rw [nth_setB hp, hx, Bool.or_true]
  refine ⟨by simpa using h.len, fun x hx => hle x (h.le x hx), fun x hx => ?_, fun v' hv' h0 p hp' => hle p (h.prev v' hv' h0 p hp'), fun j hj => ?_⟩
  · rw [nth_setB hp, Bool.or_eq_true, decide_eq_true_eq] at hx
    rcases hx with rfl | hx
    · exact hup
    · exact h.sound x hx
  · rcases Nat.lt_or_ge j k with h1 | h1
    · exact hle _ (h.cur j h1)
    · obtain rfl : j = k := by omega
      rw [nth_setB hp]; simp
theorem PassU.next (h : PassU G S L0 L v k) (he : (nth G v).length ≤ k ∨ nth L v = false) : PassU G S L0 L (v + 1) 0 := by
  refine ⟨h.len, h.le, h.sound, fun v' hv' h0 p hp => ?_, fun j hj => by omega⟩
  rcases Nat.lt_or_ge v' v with h1 | h1
  · exact h.prev v' h1 h0 p hp
  · obtain rfl : v' = v := by omega
    rcases he with he | he
    · obtain ⟨j, hj, rfl⟩ := mem_nth hp
      exact h.cur j (by omega)
    · rw [h.le _ h0] at he; cases he
/-- behind i passes -/
structure PassesU (G : List (List Nat)) (S : Nat → Prop) (L : List Bool) (i : Nat) : Prop where
  len : L.length = G.length
  base : ∀ x, S x → nth L x = true
  sound : ∀ x, nth L x = true → Up G S x
  done : (∀ x, nth L x = true → ∀ p, p ∈ nth G x → nth L p = true) ∨ i ≤ L.count true
theorem count_le : ∀ {a b : List Bool}, a.length = b.length → (∀ x, nth a x = true → nth b x = true) → a.count true ≤ b.count true ∧ (a.count true = b.count true → a = b)
  | [], [], _, _ => ⟨Nat.le_refl _, fun _ => rfl⟩
  | x :: a, y :: b, hl, h => by
    obtain ⟨h1, h2⟩ := count_le (a := a) (b := b) (by simpa using hl) (fun j hj => h (j + 1) hj)
    have h0 : x = true → y = true := h 0
    cases x <;> cases y <;> simp at h0 ⊢
    · exact ⟨h1, h2⟩
    · exact ⟨by omega, fun e => by omega⟩
    · exact ⟨h1, h2⟩
theorem PassU.passes (h : PassU G S L0 L G.length 0) (h0 : PassesU G S L0 i) : PassesU G S L (i + 1) := by
  refine ⟨h.len, fun x hx => h.le x (h0.base x hx), h.sound, ?_⟩
  obtain ⟨c1, c2⟩ := count_le (h0.len.trans h.len.symm) h.le
  rcases Nat.lt_or_ge (L0.count true) (L.count true) with hc | hc
  · rcases h0.done with hd | hd
    · left
      have e : ∀ x, nth L x = true → nth L0 x = true := fun x hx => by
        have hup := h.sound x hx
        clear hx
        induction hup with
        | base hs => exact h0.base _ hs
        | step _ hp ih => exact hd _ ih _ hp
      exact fun x hx p hp => h.le p (hd x (e x hx) p hp)
    · right; omega
  · left
    have e := c2 (by omega)
    intro x hx p hp
    have hlt : x < G.length := by
      rw [← h.len]
      rcases Nat.lt_or_ge x L.length with h1 | h1
      · exact h1
      · have : nth L x = false := by simp [nth, List.getD, List.getElem?_eq_none h1]
        rw [this] at hx; cases hx
    exact h.prev x hlt (by rw [e]; exact hx) p hp
theorem PassesU.all (h : PassesU G S L i) (hg : GoodG G) (hi : G.length ≤ i) (x : Nat) : nth L x = true ↔ Up G S x := by
  have hd : ∀ x, nth L x = true → ∀ p, p ∈ nth G x → nth L p = true := by
    rcases h.done with hd | hd
    · exact hd
    · intro x hx p hp
      have hlt : x < G.length := by
        rw [← h.len]
        rcases Nat.lt_or_ge x L.length with h1 | h1
        · exact h1
        · have : nth L x = false := by simp [nth, List.getD, List.getElem?_eq_none h1]
          rw [this] at hx; cases hx
      have hpl := hg x hlt p hp
      have hc : L.count true = L.length := by have := List.count_le_length (a := true) (l := L); have := h.len; omega
      rw [List.count_eq_length] at hc
      have hm := nth_mem (xs := L) (j := p) (by rw [h.len]; exact hpl)
      exact (hc _ hm).symm
  refine ⟨h.sound x, fun hup => ?_⟩
  induction hup with
  | base hs => exact h.base _ hs
  | step _ hp ih => exact hd _ ih _ hp
end
end Go.Proofs.Ytdlnglffimcopaa
