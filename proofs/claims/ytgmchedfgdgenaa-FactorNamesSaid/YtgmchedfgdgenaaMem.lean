/- Memory of the call's own: make and append with an element type's facts in one word; what turns between two worlds. Conditions: lengths within Go's bound. -/
import Derived.Test.YtgmchedfgdgenaaHeld
import Derived.Laws.OwnMore
namespace Go.Proofs.Ytgmchedfgdgenaa
open Go.RowKit

/-- a slice type's facts: its element type, its zero value, its bytes -/
structure EI (P : Program) (t e : TypeId) (z : Value) (bytes : Nat) : Prop where
  ex : ∃ i : TypeInfo, P.underlying t = some (.slice e) ∧ P.info? e = some i ∧ i.zero = some z ∧ i.size = 1 ∧ i.bytes = bytes
  zs : z.cells = #[z]
  pos : 1 ≤ bytes
theorem EI.mk' {P : Program} {t e : TypeId} {z : Value} {bytes : Nat} (h1 : P.underlying t = some (.slice e)) (h2 : (P.info? e).map (fun i => (i.zero, i.size, i.bytes)) = some (some z, 1, bytes)) (h3 : z.cells = #[z]) (h4 : 1 ≤ bytes) : EI P t e z bytes := by
  obtain ⟨i0, hi, hz0, hz1, hz2⟩ := info_parts h2
  exact ⟨⟨i0, h1, hi, hz0, hz1, hz2⟩, h3, h4⟩

theorem RowAt.setCellFar {α : Type} {enc : α → Value} {w : World} {g : Nat} {e : TypeId} {xs : List α} {rest : List Value} (h : RowAt enc w g e xs rest) {p : Addr} (hp : g ≠ p.block) (u : Value) : RowAt enc (w.setCell p u) g e xs rest := h.far hp u
theorem OwnR.at_row {α : Type} {enc : α → Value} {w : World} {base : Nat} {e : TypeId} {A : Option Addr} {n c : Nat} {xs : List α} (h : OwnR enc w base e A n c xs) : A = none ∨ ∃ g, A = some ⟨g, 0, none⟩ ∧ base ≤ g ∧ g < w.heap.size := by
  rcases h.2 with ⟨hv, _⟩ | ⟨g, cap, cur, hv, hb, hg, _⟩
  · injection hv with e1; exact .inl e1
  · injection hv with e1; exact .inr ⟨g, e1, hb, (Array.getElem?_eq_some_iff.1 hg).1⟩
theorem OwnR.setFar {α : Type} {enc : α → Value} {w : World} {base : Nat} {e : TypeId} {A : Option Addr} {n c : Nat} {xs : List α} (h : OwnR enc w base e A n c xs) {p : Addr} (hp : ∀ g, A = some ⟨g, 0, none⟩ → g ≠ p.block) (u : Value) : OwnR enc (w.setCell p u) base e A n c xs := by
  refine h.grown (row := some p.block) ⟨rfl, rfl, rfl, by simp [World.setCell], fun k _ hne => Below.heap_setCell _ _ _ _ (by rintro rfl; exact hne rfl)⟩ fun g e1 e2 => ?_
  injection e2 with e2
  exact hp g e1 e2.symm

section
variable {P : Program} (w : World)
theorem wpList_app {α : Type} [Inhabited α] {t e : TypeId} {z : Value} {bytes : Nat} (E : EI P t e z bytes) (enc : α → Value) (h1 : ∀ x, (enc x).oneCell' = true) {ops : Array Oper} {rest : List Oper} {o : Oper} {a : Act} {Q : Exit → Act → World → Prop} (hgd : o.guard = none) (s x : Operand)
    (ho : o.op = .call { callee := .builtin .append, args := #[s, x], argTypes := #[t, t] }) (base : Nat) (A : Option Addr) (n c : Nat) (xs : List α) (hs : a.eval s = .slice A n c) (hown : OwnR enc w base e A n c xs)
    (B : Option Addr) (m d : Nat) (ys : List α) (hx : a.eval x = .slice B m d) (hy : Sl enc w B m ys) (hbytes : (n + m) * bytes ≤ 140737488355328) (hbase : base ≤ w.heap.size)
    (h : ∀ A' c' w', OwnR enc w' base e A' (n + m) c' (xs ++ ys) → w.grownBy w' (Value.slice A n c).ownBlock → Below base w w' →
      ((Value.slice A' (n + m) c').ownBlock = (Value.slice A n c).ownBlock ∨ (Value.slice A' (n + m) c').ownBlock = some w.heap.size) → wpList P ops Q rest (a.put o.dst (.slice A' (n + m) c')) w') : wpList P ops Q (o :: rest) a w := by
  obtain ⟨⟨i, e1, e2, e3, e4, e5⟩, hz, hp⟩ := E
  refine wpList_append_sl w enc h1 hgd s x t ho base e i z bytes e1 e2 e3 e4 e5 (by rw [hz]; rfl) A n c xs hs hown B m d ys hx hy ?_ hbytes hbase h
  have : (n + m) * 1 ≤ (n + m) * bytes := Nat.mul_le_mul_left _ hp
  unfold maxLen; omega
theorem wpList_mk {α : Type} [Inhabited α] {t e : TypeId} {z : Value} {bytes : Nat} (E : EI P t e z bytes) (enc : α → Value) (x0 : α) (hx0 : enc x0 = z) {ops : Array Oper} {rest : List Oper} {o : Oper} {a : Act} {Q : Exit → Act → World → Prop} (hgd : o.guard = none) (l c : Operand)
    (ho : o.op = Op.makeSlice t l c) (n : Nat) (hl : a.eval l = .int .i64 (n : Int)) (hc : a.eval c = .int .i64 (n : Int)) (hb : bytes * n ≤ 281474976710656)
    (h : ∀ w', RowAt enc w' w.heap.size e (List.replicate n x0) [] → Below w.heap.size w w' → wpList P ops Q rest (a.put o.dst (.slice (some ⟨w.heap.size, 0, none⟩) n n)) w') : wpList P ops Q (o :: rest) a w := by
  obtain ⟨⟨i, e1, e2, e3, e4, e5⟩, hz, hp⟩ := E
  have hn : 1 * n ≤ bytes * n := Nat.mul_le_mul_right _ hp
  refine wpList_make_full w hgd l c t ho w.heap.size e i z 1 e1 e2 e3 e4 .i64 .i64 _ _ n hl hc rfl rfl (by rw [e5]; exact hb) (by unfold maxLen; omega) (Nat.le_refl _) fun w' h1 h2 => h w' ?_ ⟨h2.os, h2.tape, h2.output, h2.size, fun b hb => h2.block b hb (by simp)⟩
  rcases h1.2 with ⟨h3, _⟩ | ⟨g, cap, cur, h3, h4, h5, h6, h7, h8, h9⟩
  · cases h3
  · injection h3 with e6 e7 e8
    injection e6 with e6
    injection e6 with e6
    subst e6 e8
    have hl := h1.1
    unfold RowAt
    rw [h5]
    congr 2
    rw [hz, Nat.mul_one, toList_madeCells_one] at h9
    rw [Nat.mul_one] at h8
    rw [List.take_of_length_le (by simp [h8])] at h9
    rw [List.map_replicate, hx0, List.append_nil, ← h9]
end

/-- what has turned between two worlds: blocks of S, and new ones -/
structure Turn (w w' : World) (S : Nat → Prop) : Prop where
  os : w'.os = w.os
  tape : w'.tape = w.tape
  output : w'.output = w.output
  size : w.heap.size ≤ w'.heap.size
  block : ∀ b, b < w.heap.size → ¬ S b → w'.heap[b]? = w.heap[b]?
section
variable {a b c w w' : World} {S T : Nat → Prop}
theorem Turn.refl (w : World) (S : Nat → Prop) : Turn w w S := ⟨rfl, rfl, rfl, Nat.le_refl _, fun _ _ _ => rfl⟩
theorem Turn.trans (h : Turn a b S) (k : Turn b c T) (hT : ∀ x, x < a.heap.size → T x → S x) : Turn a c S :=
  ⟨k.os.trans h.os, k.tape.trans h.tape, k.output.trans h.output, Nat.le_trans h.size k.size, fun i hi hn => (k.block i (Nat.lt_of_lt_of_le hi h.size) fun ht => hn (hT i hi ht)).trans (h.block i hi hn)⟩
theorem Turn.mono (h : Turn a b S) (hT : ∀ x, x < a.heap.size → S x → T x) : Turn a b T := ⟨h.os, h.tape, h.output, h.size, fun i hi hn => h.block i hi fun ht => hn (hT i hi ht)⟩
theorem Turn.of_grown {row : Option Nat} (h : a.grownBy b row) : Turn a b (fun x => row = some x) := ⟨h.os, h.tape, h.output, h.size, fun i hi hn => h.block i hi fun e => hn e.symm⟩
theorem Turn.of_below (h : Below a.heap.size a b) (S : Nat → Prop) : Turn a b S := ⟨h.os, h.tape, h.output, h.size, fun i hi _ => h.block i hi⟩
theorem Turn.drewN (h : Turn a b S) (k : Nat) : Turn a (b.drewN k) S := ⟨h.os, h.tape, h.output, h.size, h.block⟩
theorem Turn.drew (h : Turn a b S) : Turn a b.drew S := h.drewN 1
theorem Turn.alloc (h : Turn a b S) (o : Obj) : Turn a (b.alloc o) S := h.trans (Turn.of_below ((Below.refl _ _).alloc (Nat.le_refl _) o) (fun _ => False)) fun _ _ e => e.elim
theorem Turn.setCell (h : Turn a b S) (p : Addr) (hp : p.block < a.heap.size → S p.block) (v : Value) : Turn a (b.setCell p v) S :=
  ⟨h.os, h.tape, h.output, by have := h.size; simpa [World.setCell] using this, fun i hi hn => (Below.heap_setCell b p v i (fun e => hn (by rw [e] at hi ⊢; exact hp hi))).trans (h.block i hi hn)⟩
theorem Turn.below (h : Turn a b S) {B : Nat} (hB : B ≤ a.heap.size) (hS : ∀ x, x < B → ¬ S x) : Below B a b := ⟨h.os, h.tape, h.output, h.size, fun k hk => h.block k (by omega) (hS k hk)⟩
theorem OwnR.turn {α : Type} {enc : α → Value} {base : Nat} {e : TypeId} {A : Option Addr} {n c : Nat} {xs : List α} (h : OwnR enc a base e A n c xs) (ht : Turn a b S) (hS : ∀ g, A = some ⟨g, 0, none⟩ → ¬ S g) : OwnR enc b base e A n c xs := by
  refine ⟨h.1, ?_⟩
  rcases h.2 with h2 | ⟨g, cap, cur, h1, hb, hh, r⟩
  · exact .inl h2
  · have e1 : A = some ⟨g, 0, none⟩ := by injection h1
    exact .inr ⟨g, cap, cur, h1, hb, (ht.block g (Array.getElem?_eq_some_iff.1 hh).1 (hS g e1)).trans hh, r⟩
theorem RowC.turn {g : Nat} {e : TypeId} {cs : List Value} (h : RowC a g e cs) (ht : Turn a b S) (hS : ¬ S g) : RowC b g e cs := (ht.block g h.lt hS).trans h
theorem RowAt.turn {α : Type} {enc : α → Value} {g : Nat} {e : TypeId} {xs : List α} {rest : List Value} (h : RowAt enc a g e xs rest) (ht : Turn a b S) (hS : ¬ S g) : RowAt enc b g e xs rest := (ht.block g h.lt hS).trans h
end
/-- a slice literal -/
theorem Sl.litM {α : Type} [Inhabited α] (enc : α → Value) (w : World) (e : TypeId) (xs : List α) (h : xs.length ≤ 140737488351232) : Sl enc (w.alloc (.cells (xs.map enc).toArray e)) (some ⟨w.heap.size, 0, none⟩) xs.length xs :=
  ⟨rfl, h, fun _ => ⟨w.heap.size, 0, rfl, by simp, fun j hj => by
    rw [cell_of_row _ _ _ _ _ _ (heap_alloc_new w _), Nat.zero_add]
    simp only [List.getElem?_toArray, List.getElem?_map, nth_get? hj]
    rfl⟩⟩
theorem drew_eq (w : World) : w.drew = w.drewN 1 := rfl
end Go.Proofs.Ytgmchedfgdgenaa
