/- What turns where three rows of the call's own are written over and gone on with. No condition. -/
import Derived.Test.YtgmchedfgdgenaaTrio
namespace Go.Proofs.Ytgmchedfgdgenaa
open Go.RowKit

theorem OwnR.cast {α : Type} {enc : α → Value} {w : World} {base : Nat} {e : TypeId} {A : Option Addr} {n c : Nat} {xs ys : List α} (h : OwnR enc w base e A n c xs) (he : xs = ys) : OwnR enc w base e A n c ys := he ▸ h
/-- the three rows now, and what has turned since: blocks of S, and new ones -/
structure Spo {α β γ : Type} (ea : α → Value) (eb : β → Value) (ec : γ → Value) (w0 w : World) (S : Nat → Prop) (base : Nat) (ta tb tc : TypeId) (A : Option Addr) (n c : Nat) (X : List α) (B : Option Addr) (m d : Nat) (Y : List β) (C : Option Addr) (k e : Nat) (Z : List γ) : Prop where
  tr : Trio ea eb ec w base ta tb tc A n c X B m d Y C k e Z
  tu : Turn w0 w S
  a1 : ∀ g, A = some ⟨g, 0, none⟩ → S g ∨ w0.heap.size ≤ g
  a2 : ∀ g, B = some ⟨g, 0, none⟩ → S g ∨ w0.heap.size ≤ g
  a3 : ∀ g, C = some ⟨g, 0, none⟩ → S g ∨ w0.heap.size ≤ g
section
variable {α β γ : Type} {ea : α → Value} {eb : β → Value} {ec : γ → Value} {w0 w w' : World} {S : Nat → Prop} {base : Nat} {ta tb tc : TypeId} {A : Option Addr} {n c : Nat} {X : List α} {B : Option Addr} {m d : Nat} {Y : List β} {C : Option Addr} {k e : Nat} {Z : List γ}
theorem Spo.start (h : Trio ea eb ec w base ta tb tc A n c X B m d Y C k e Z) : Spo ea eb ec w w (fun x => A = some ⟨x, 0, none⟩ ∨ B = some ⟨x, 0, none⟩ ∨ C = some ⟨x, 0, none⟩) base ta tb tc A n c X B m d Y C k e Z :=
  ⟨h, Turn.refl _ _, fun _ e1 => .inl (.inl e1), fun _ e1 => .inl (.inr (.inl e1)), fun _ e1 => .inl (.inr (.inr e1))⟩
theorem Spo.rot (h : Spo ea eb ec w0 w S base ta tb tc A n c X B m d Y C k e Z) : Spo eb ec ea w0 w S base tb tc ta B m d Y C k e Z A n c X := ⟨h.tr.rot, h.tu, h.a2, h.a3, h.a1⟩
theorem Spo.size (h : Spo ea eb ec w0 w S base ta tb tc A n c X B m d Y C k e Z) : w0.heap.size ≤ w.heap.size := h.tu.size
theorem Spo.alloc (h : Spo ea eb ec w0 w S base ta tb tc A n c X B m d Y C k e Z) (o : Obj) : Spo ea eb ec w0 (w.alloc o) S base ta tb tc A n c X B m d Y C k e Z := ⟨h.tr.alloc o, h.tu.alloc o, h.a1, h.a2, h.a3⟩
theorem Spo.app {A' : Option Addr} {n' c' : Nat} {X' : List α} (h : Spo ea eb ec w0 w S base ta tb tc A n c X B m d Y C k e Z) (ho : OwnR ea w' base ta A' n' c' X') (hg : w.grownBy w' (Value.slice A n c).ownBlock)
    (hd : (Value.slice A' n' c').ownBlock = (Value.slice A n c).ownBlock ∨ (Value.slice A' n' c').ownBlock = some w.heap.size) : Spo ea eb ec w0 w' S base ta tb tc A' n' c' X' B m d Y C k e Z := by
  refine ⟨h.tr.app ho hg hd, h.tu.trans (Turn.of_grown hg) fun x hx e1 => ?_, fun g e1 => ?_, h.a2, h.a3⟩
  · rcases h.a1 x (h.tr.o1.block_eq e1) with h1 | h1
    · exact h1
    · omega
  · have h1 : (Value.slice A' n' c').ownBlock = some g := by rw [e1]; rfl
    rcases hd with hd | hd
    · exact h.a1 g (h.tr.o1.block_eq (by rw [← hd]; exact h1))
    · rw [h1] at hd; injection hd with hd
      have := h.tu.size
      exact .inr (by omega)
/-- a number of the first row is written -/
theorem Spo.set {g : Nat} (h : Spo ea eb ec w0 w S base ta tb tc (some ⟨g, 0, none⟩) n c X B m d Y C k e Z) {j : Nat} (hj : j < n) (v : α) :
    Spo ea eb ec w0 (w.setCell ⟨g, j, none⟩ (ea v)) S base ta tb tc (some ⟨g, 0, none⟩) n c (X.set j v) B m d Y C k e Z :=
  h.app (h.tr.o1.setAt hj v) (grown_setCell (World.grownBy.refl w _) j _) (.inl rfl)
end
end Go.Proofs.Ytgmchedfgdgenaa
