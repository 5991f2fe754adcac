/- What stays while the world only grows above: one word for many facts. No condition. -/
import Derived.Test.YtgmchedfgdgenaaLaws
import Derived.Outline
namespace Go.Proofs.Ytgmchedfgdgenaa
open Go.RowKit

/-- what stays when the world grows above all that there is -/
class Stable (P : World → Prop) : Prop where
  below : ∀ {w w' : World}, Below w.heap.size w w' → P w → P w'

section
variable {P Q : World → Prop}
instance (p : Prop) : Stable (fun _ => p) := ⟨fun _ h => h⟩
instance [Stable P] [Stable Q] : Stable (fun w => P w ∧ Q w) := ⟨fun hb h => ⟨Stable.below hb h.1, Stable.below hb h.2⟩⟩
instance {α : Type} {P : α → World → Prop} [∀ x, Stable (P x)] : Stable (fun w => ∀ x, P x w) := ⟨fun hb h x => Stable.below hb (h x)⟩
instance {α : Type} {P : α → World → Prop} [∀ x, Stable (P x)] : Stable (fun w => ∃ x, P x w) := ⟨fun hb h => h.imp fun _ hx => Stable.below hb hx⟩
instance {p : Prop} [Stable P] : Stable (fun w => p → P w) := ⟨fun hb h hp => Stable.below hb (h hp)⟩
instance {α : Type} [Inhabited α] {enc : α → Value} {A : Option Addr} {n : Nat} {xs : List α} : Stable (fun w => Sl enc w A n xs) := ⟨fun hb h => h.below (Nat.le_refl _) hb⟩
instance {g : Nat} {e : TypeId} {cs : List Value} : Stable (fun w => RowC w g e cs) := ⟨fun hb h => h.below' hb⟩
instance {α : Type} {enc : α → Value} {base : Nat} {e : TypeId} {A : Option Addr} {n c : Nat} {xs : List α} : Stable (fun w => OwnR enc w base e A n c xs) := ⟨fun hb h => h.below (Nat.le_refl _) hb⟩
instance {α : Type} {enc : α → Value} {g : Nat} {e : TypeId} {xs : List α} {rest : List Value} : Stable (fun w => RowAt enc w g e xs rest) := ⟨fun hb h => h.below hb h.lt⟩
instance {B : Nat} : Stable (fun w => B ≤ w.heap.size) := ⟨fun hb h => Nat.le_trans h hb.size⟩
end

/-- the world w has come out of w0 by growing above, and P holds there -/
structure Held (w0 : World) (P : World → Prop) (w : World) : Prop where
  bel : Below w0.heap.size w0 w
  has : P w

section
variable {w0 w w' : World} {P Q : World → Prop}
theorem Held.start (w0 : World) (h : P w0) : Held w0 P w0 := ⟨Below.refl _ _, h⟩
theorem Held.init (w0 : World) : Held w0 (fun _ => True) w0 := ⟨Below.refl _ _, trivial⟩
theorem Held.step [Stable P] (h : Held w0 P w) (hb : Below w.heap.size w w') : Held w0 P w' := ⟨h.bel.trans (hb.mono h.bel.size), Stable.below hb h.has⟩
theorem Held.alloc [Stable P] (h : Held w0 P w) (o : Obj) : Held w0 P (w.alloc o) := h.step ((Below.refl _ _).alloc (Nat.le_refl _) o)
theorem Held.drewN [Stable P] (h : Held w0 P w) (k : Nat) : Held w0 P (w.drewN k) := h.step (below_refl_drewN _ _ _)
theorem Held.drew [Stable P] (h : Held w0 P w) : Held w0 P w.drew := h.drewN 1
theorem Held.and (h : Held w0 P w) (hq : Q w) : Held w0 (fun w => Q w ∧ P w) w := ⟨h.bel, hq, h.has⟩
theorem Held.sl [Stable P] {α : Type} [Inhabited α] {enc : α → Value} {A : Option Addr} {n : Nat} {xs : List α} (h : Held w0 P w) (hq : Sl enc w A n xs) : Held w0 (fun w => Sl enc w A n xs ∧ P w) w := ⟨h.bel, hq, h.has⟩
theorem Held.own [Stable P] {α : Type} {enc : α → Value} {base : Nat} {e : TypeId} {A : Option Addr} {n c : Nat} {xs : List α} (h : Held w0 P w) (hq : OwnR enc w base e A n c xs) : Held w0 (fun w => OwnR enc w base e A n c xs ∧ P w) w := ⟨h.bel, hq, h.has⟩
theorem Held.row [Stable P] {g : Nat} {e : TypeId} {cs : List Value} (h : Held w0 P w) (hq : RowC w g e cs) : Held w0 (fun w => RowC w g e cs ∧ P w) w := ⟨h.bel, hq, h.has⟩
theorem Held.ge [Stable P] {B : Nat} (h : Held w0 P w) (hq : B ≤ w.heap.size) : Held w0 (fun w => B ≤ w.heap.size ∧ P w) w := ⟨h.bel, hq, h.has⟩
theorem Held.imp (h : Held w0 P w) (hq : P w → Q w) : Held w0 Q w := ⟨h.bel, hq h.has⟩
/-- a new block, known whole -/
theorem Held.new [Stable P] (h : Held w0 P w) (e : TypeId) (cs : List Value) : Held w0 (fun w' => RowC w' w.heap.size e cs ∧ P w') (w.alloc (.cells cs.toArray e)) := (h.alloc _).and (RowC.new w e cs)
section
variable {A B C D E : World → Prop}
theorem Held.drop0 (h : Held w0 (fun w => A w ∧ Q w) w) : Held w0 (fun w => Q w) w := ⟨h.bel, h.has.2⟩
theorem Held.drop1 (h : Held w0 (fun w => A w ∧ B w ∧ Q w) w) : Held w0 (fun w => A w ∧ Q w) w := ⟨h.bel, h.has.1, h.has.2.2⟩
theorem Held.drop2 (h : Held w0 (fun w => A w ∧ B w ∧ C w ∧ Q w) w) : Held w0 (fun w => A w ∧ B w ∧ Q w) w := ⟨h.bel, h.has.1, h.has.2.1, h.has.2.2.2⟩
theorem Held.drop3 (h : Held w0 (fun w => A w ∧ B w ∧ C w ∧ D w ∧ Q w) w) : Held w0 (fun w => A w ∧ B w ∧ C w ∧ Q w) w := ⟨h.bel, h.has.1, h.has.2.1, h.has.2.2.1, h.has.2.2.2.2⟩
theorem Held.drop4 (h : Held w0 (fun w => A w ∧ B w ∧ C w ∧ D w ∧ E w ∧ Q w) w) : Held w0 (fun w => A w ∧ B w ∧ C w ∧ D w ∧ Q w) w := ⟨h.bel, h.has.1, h.has.2.1, h.has.2.2.1, h.has.2.2.2.1, h.has.2.2.2.2.2⟩
end
theorem Held.size (h : Held w0 P w) : w0.heap.size ≤ w.heap.size := h.bel.size
end
end Go.Proofs.Ytgmchedfgdgenaa
