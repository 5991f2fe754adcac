/- Three rows of the call's own, no two the same one; a box that holds their three slices. No condition. -/
import Derived.Test.YtgmchedfgdgenaaMem
import Derived.Deep.DeepCutAuto
import Derived.Deep.CutBlock
namespace Go.Proofs.Ytgmchedfgdgenaa
open Go.RowKit

/-- three slices, each owning a row among the blocks from base on, no two the same one -/
structure Trio {α β γ : Type} (ea : α → Value) (eb : β → Value) (ec : γ → Value) (w : World) (base : Nat) (ta tb tc : TypeId) (A : Option Addr) (n c : Nat) (X : List α) (B : Option Addr) (m d : Nat) (Y : List β) (C : Option Addr) (k e : Nat) (Z : List γ) : Prop where
  o1 : OwnR ea w base ta A n c X
  o2 : OwnR eb w base tb B m d Y
  o3 : OwnR ec w base tc C k e Z
  d12 : ∀ g, A = some ⟨g, 0, none⟩ → B ≠ some ⟨g, 0, none⟩
  d13 : ∀ g, A = some ⟨g, 0, none⟩ → C ≠ some ⟨g, 0, none⟩
  d23 : ∀ g, B = some ⟨g, 0, none⟩ → C ≠ some ⟨g, 0, none⟩
theorem OwnR.block_eq {α : Type} {enc : α → Value} {w : World} {base : Nat} {e : TypeId} {A : Option Addr} {n c : Nat} {xs : List α} (h : OwnR enc w base e A n c xs) {g : Nat} (hg : (Value.slice A n c).ownBlock = some g) : A = some ⟨g, 0, none⟩ := by
  rcases h.at_row with rfl | ⟨g', rfl, _⟩
  · cases hg
  · injection hg with hg; rw [← hg]
section
variable {α β γ : Type} {ea : α → Value} {eb : β → Value} {ec : γ → Value} {w w' : World} {base : Nat} {ta tb tc : TypeId} {A : Option Addr} {n c : Nat} {X : List α} {B : Option Addr} {m d : Nat} {Y : List β} {C : Option Addr} {k e : Nat} {Z : List γ}
theorem Trio.rot (h : Trio ea eb ec w base ta tb tc A n c X B m d Y C k e Z) : Trio eb ec ea w base tb tc ta B m d Y C k e Z A n c X :=
  ⟨h.o2, h.o3, h.o1, h.d23, fun g e1 e2 => h.d12 g e2 e1, fun g e1 e2 => h.d13 g e2 e1⟩
theorem Trio.nil (ea : α → Value) (eb : β → Value) (ec : γ → Value) (w : World) (base : Nat) (ta tb tc : TypeId) : Trio ea eb ec w base ta tb tc none 0 0 [] none 0 0 [] none 0 0 [] :=
  ⟨OwnR.nil _ _ _ _, OwnR.nil _ _ _ _, OwnR.nil _ _ _ _, fun _ e => by (cases e), fun _ e => by (cases e), fun _ e => by (cases e)⟩
theorem Trio.below (h : Trio ea eb ec w base ta tb tc A n c X B m d Y C k e Z) (hb : Below w.heap.size w w') : Trio ea eb ec w' base ta tb tc A n c X B m d Y C k e Z :=
  ⟨h.o1.below (Nat.le_refl _) hb, h.o2.below (Nat.le_refl _) hb, h.o3.below (Nat.le_refl _) hb, h.d12, h.d13, h.d23⟩
instance : Stable (fun w => Trio ea eb ec w base ta tb tc A n c X B m d Y C k e Z) := ⟨fun hb h => h.below hb⟩
theorem Trio.alloc (h : Trio ea eb ec w base ta tb tc A n c X B m d Y C k e Z) (o : Obj) : Trio ea eb ec (w.alloc o) base ta tb tc A n c X B m d Y C k e Z := h.below ((Below.refl _ _).alloc (Nat.le_refl _) o)
theorem Trio.mono (h : Trio ea eb ec w base ta tb tc A n c X B m d Y C k e Z) {base' : Nat} (hb : base' ≤ base) : Trio ea eb ec w base' ta tb tc A n c X B m d Y C k e Z := ⟨h.o1.mono hb, h.o2.mono hb, h.o3.mono hb, h.d12, h.d13, h.d23⟩
/-- the first row has turned: what it owns now lies where it lay, or above -/
theorem Trio.app {α' : Type} {ea' : α' → Value} {ta' : TypeId} {A' : Option Addr} {n' c' : Nat} {X' : List α'} (h : Trio ea eb ec w base ta tb tc A n c X B m d Y C k e Z) (ho : OwnR ea' w' base ta' A' n' c' X')
    (hg : w.grownBy w' (Value.slice A n c).ownBlock) (hd : (Value.slice A' n' c').ownBlock = (Value.slice A n c).ownBlock ∨ (Value.slice A' n' c').ownBlock = some w.heap.size) :
    Trio ea' eb ec w' base ta' tb tc A' n' c' X' B m d Y C k e Z := by
  have hA : ∀ g, A' = some ⟨g, 0, none⟩ → A = some ⟨g, 0, none⟩ ∨ g = w.heap.size := fun g e1 => by
    have h1 : (Value.slice A' n' c').ownBlock = some g := by rw [e1]; rfl
    rcases hd with hd | hd
    · exact .inl (h.o1.block_eq (by rw [← hd]; exact h1))
    · rw [h1] at hd; injection hd with hd; exact .inr hd
  have lt2 : ∀ g, B = some ⟨g, 0, none⟩ → g < w.heap.size := fun g e1 => by
    rcases h.o2.at_row with h1 | ⟨g', h1, _, h2⟩
    · rw [e1] at h1; cases h1
    · rw [e1] at h1; injection h1 with h1; injection h1 with h1; omega
  have lt3 : ∀ g, C = some ⟨g, 0, none⟩ → g < w.heap.size := fun g e1 => by
    rcases h.o3.at_row with h1 | ⟨g', h1, _, h2⟩
    · rw [e1] at h1; cases h1
    · rw [e1] at h1; injection h1 with h1; injection h1 with h1; omega
  refine ⟨ho, h.o2.grown hg fun g e1 e2 => h.d12 g (h.o1.block_eq e2) e1, h.o3.grown hg fun g e1 e2 => h.d13 g (h.o1.block_eq e2) e1, fun g e1 e2 => ?_, fun g e1 e2 => ?_, h.d23⟩
  · rcases hA g e1 with h1 | h1
    · exact h.d12 g h1 e2
    · have := lt2 g e2; omega
  · rcases hA g e1 with h1 | h1
    · exact h.d13 g h1 e2
    · have := lt3 g e2; omega
/-- a cell that is none of the rows' is written -/
theorem Trio.setLow (h : Trio ea eb ec w base ta tb tc A n c X B m d Y C k e Z) {p : Addr} (hp : p.block < base) (u : Value) : Trio ea eb ec (w.setCell p u) base ta tb tc A n c X B m d Y C k e Z := by
  have low : ∀ {δ : Type} {ed : δ → Value} {td : TypeId} {D : Option Addr} {j f : Nat} {V : List δ}, OwnR ed w base td D j f V → ∀ g, D = some ⟨g, 0, none⟩ → g ≠ p.block := fun ho g e1 => by
    rcases ho.at_row with h1 | ⟨g', h1, h2, _⟩
    · rw [e1] at h1; cases h1
    · rw [e1] at h1; injection h1 with h1; injection h1 with h1; omega
  exact ⟨h.o1.setFar (low h.o1) u, h.o2.setFar (low h.o2) u, h.o3.setFar (low h.o3) u, h.d12, h.d13, h.d23⟩
theorem Trio.setFar (h : Trio ea eb ec w base ta tb tc A n c X B m d Y C k e Z) {p : Addr} (hp : ∀ g, A = some ⟨g, 0, none⟩ ∨ B = some ⟨g, 0, none⟩ ∨ C = some ⟨g, 0, none⟩ → g ≠ p.block) (u : Value) : Trio ea eb ec (w.setCell p u) base ta tb tc A n c X B m d Y C k e Z :=
  ⟨h.o1.setFar (fun g e1 => hp g (.inl e1)) u, h.o2.setFar (fun g e1 => hp g (.inr (.inl e1))) u, h.o3.setFar (fun g e1 => hp g (.inr (.inr e1))) u, h.d12, h.d13, h.d23⟩
/-- what turns when the first row turns -/
theorem Trio.below1 (h : Trio ea eb ec w base ta tb tc A n c X B m d Y C k e Z) (hg : w.grownBy w' (Value.slice A n c).ownBlock) {B0 : Nat} (hB : B0 ≤ base) (hs : B0 ≤ w.heap.size) : Below B0 w w' :=
  ⟨hg.os, hg.tape, hg.output, hg.size, fun b hb => hg.block b (by omega) fun e1 => by
    have := h.o1.block_eq e1.symm
    rcases h.o1.at_row with h1 | ⟨g', h1, h2, _⟩
    · rw [this] at h1; cases h1
    · rw [this] at h1; injection h1 with h1; injection h1 with h1; omega⟩
end

/-- a box of three slices that own rows above it, with room behind: all that the call has written -/
structure Boxed3 {γ : Type} (ec : γ → Value) (w0 w : World) (g : Nat) (tb ti tc : TypeId) (A : Option Addr) (n c : Nat) (X : List Int) (B : Option Addr) (m d : Nat) (Y : List Int) (C : Option Addr) (k e : Nat) (Z : List γ) : Prop where
  bel : Below w0.heap.size w0 w
  row : RowC w g tb [.slice A n c, .slice B m d, .slice C k e]
  tr : Trio (Value.int .i64) (Value.int .i64) ec w (g + 1) ti ti tc A n c X B m d Y C k e Z
  lt : w0.heap.size ≤ g
section
variable {γ : Type} {ec : γ → Value} {w0 w w' : World} {g : Nat} {tb ti tc : TypeId} {A : Option Addr} {n c : Nat} {X : List Int} {B : Option Addr} {m d : Nat} {Y : List Int} {C : Option Addr} {k e : Nat} {Z : List γ}
theorem Boxed3.alloc (h : Boxed3 ec w0 w g tb ti tc A n c X B m d Y C k e Z) (o : Obj) : Boxed3 ec w0 (w.alloc o) g tb ti tc A n c X B m d Y C k e Z := ⟨h.bel.alloc h.bel.size o, h.row.alloc o, h.tr.alloc o, h.lt⟩
theorem Boxed3.low (h : Boxed3 ec w0 w g tb ti tc A n c X B m d Y C k e Z) (hg : w.grownBy w' (Value.slice A n c).ownBlock) : Below (g + 1) w w' := h.tr.below1 hg (Nat.le_refl _) h.row.lt
theorem Boxed3.low2 (h : Boxed3 ec w0 w g tb ti tc A n c X B m d Y C k e Z) (hg : w.grownBy w' (Value.slice B m d).ownBlock) : Below (g + 1) w w' := h.tr.rot.below1 hg (Nat.le_refl _) h.row.lt
theorem Boxed3.low3 (h : Boxed3 ec w0 w g tb ti tc A n c X B m d Y C k e Z) (hg : w.grownBy w' (Value.slice C k e).ownBlock) : Below (g + 1) w w' := h.tr.rot.rot.below1 hg (Nat.le_refl _) h.row.lt
theorem Boxed3.app1 {A' : Option Addr} {n' c' : Nat} {X' : List Int} (h : Boxed3 ec w0 w g tb ti tc A n c X B m d Y C k e Z) (ho : OwnR (Value.int .i64) w' (g + 1) ti A' n' c' X') (hg : w.grownBy w' (Value.slice A n c).ownBlock)
    (hd : (Value.slice A' n' c').ownBlock = (Value.slice A n c).ownBlock ∨ (Value.slice A' n' c').ownBlock = some w.heap.size) : Boxed3 ec w0 (w'.setCell ⟨g, 0, none⟩ (.slice A' n' c')) g tb ti tc A' n' c' X' B m d Y C k e Z :=
  ⟨(h.bel.trans ((h.low hg).mono (by have := h.lt; omega))).setCell (p := ⟨g, 0, none⟩) h.lt _, (h.row.below (h.low hg) (Nat.lt_succ_self g)).put 0 _, (h.tr.app ho hg hd).setLow (Nat.lt_succ_self g) _, h.lt⟩
theorem Boxed3.app2 {A' : Option Addr} {n' c' : Nat} {X' : List Int} (h : Boxed3 ec w0 w g tb ti tc A n c X B m d Y C k e Z) (ho : OwnR (Value.int .i64) w' (g + 1) ti A' n' c' X') (hg : w.grownBy w' (Value.slice B m d).ownBlock)
    (hd : (Value.slice A' n' c').ownBlock = (Value.slice B m d).ownBlock ∨ (Value.slice A' n' c').ownBlock = some w.heap.size) : Boxed3 ec w0 (w'.setCell ⟨g, 1, none⟩ (.slice A' n' c')) g tb ti tc A n c X A' n' c' X' C k e Z :=
  ⟨(h.bel.trans ((h.low2 hg).mono (by have := h.lt; omega))).setCell (p := ⟨g, 1, none⟩) h.lt _, (h.row.below (h.low2 hg) (Nat.lt_succ_self g)).put 1 _, ((h.tr.rot.app ho hg hd).rot.rot).setLow (Nat.lt_succ_self g) _, h.lt⟩
theorem Boxed3.app3 {C' : Option Addr} {n' c' : Nat} {X' : List γ} (h : Boxed3 ec w0 w g tb ti tc A n c X B m d Y C k e Z) (ho : OwnR ec w' (g + 1) tc C' n' c' X') (hg : w.grownBy w' (Value.slice C k e).ownBlock)
    (hd : (Value.slice C' n' c').ownBlock = (Value.slice C k e).ownBlock ∨ (Value.slice C' n' c').ownBlock = some w.heap.size) : Boxed3 ec w0 (w'.setCell ⟨g, 2, none⟩ (.slice C' n' c')) g tb ti tc A n c X B m d Y C' n' c' X' :=
  ⟨(h.bel.trans ((h.low3 hg).mono (by have := h.lt; omega))).setCell (p := ⟨g, 2, none⟩) h.lt _, (h.row.below (h.low3 hg) (Nat.lt_succ_self g)).put 2 _, ((h.tr.rot.rot.app ho hg hd).rot).setLow (Nat.lt_succ_self g) _, h.lt⟩
end
/-- what is left of what the call owns, at a length that is shorter -/
theorem OwnR.pre {α : Type} [Inhabited α] {enc : α → Value} {w : World} {base : Nat} {e : TypeId} {A : Option Addr} {n m c : Nat} {xs ys : List α} (h : OwnR enc w base e A m c (xs ++ ys)) (hn : xs.length = n) (hb : m ≤ 140737488351232) : Sl enc w A n xs := by
  have h1 := h.sl hb
  have h2 := h.length
  rw [List.length_append] at h2
  refine ⟨hn, by omega, fun hp => ?_⟩
  obtain ⟨b, off, e1, hlt, hc⟩ := h1.at' (by omega)
  refine ⟨b, off, e1, hlt, fun j hj => ?_⟩
  rw [hc j (by omega), nth_append_left (by omega)]
/-- the call's own row, all of it written over -/
theorem OwnR.over {α : Type} {enc : α → Value} {w w' : World} {base : Nat} {e : TypeId} {g n c : Nat} {xs ys : List α} {rest : List Value} (h : OwnR enc w base e (some ⟨g, 0, none⟩) n c xs) (hr : RowAt enc w' g e ys rest) (hl : ys.length = n) (hc : n + rest.length = c) : OwnR enc w' base e (some ⟨g, 0, none⟩) n c ys := by
  have hb : base ≤ g := by
    rcases h.2 with ⟨h1, _⟩ | ⟨g', _, _, h1, h2, _⟩
    · injection h1 with h1; cases h1
    · injection h1 with h1; injection h1 with h1; injection h1 with h1; omega
  exact OwnR.of_row' hr hb (by rw [hl]; exact hc) h.capmax hl
theorem Sl.grown {α : Type} [Inhabited α] {enc : α → Value} {w w' : World} {A : Option Addr} {n : Nat} {xs : List α} {row : Option Nat} (h : Sl enc w A n xs) (hg : w.grownBy w' row) (hne : ∀ b off, 0 < n → A = some ⟨b, off, none⟩ → row ≠ some b) : Sl enc w' A n xs :=
  ⟨h.len, h.big, fun hn => by
    obtain ⟨b, off, e, hlt, hc⟩ := h.at' hn
    exact ⟨b, off, e, Nat.lt_of_lt_of_le hlt hg.size, fun j hj => World.grownBy.cell hg (hc j hj) (fun e' => hne b off hn e e'.symm)⟩⟩
theorem ownBlock_len (A : Option Addr) (n m c d : Nat) : (Value.slice A n c).ownBlock = (Value.slice A m d).ownBlock := by cases A <;> rfl
/-- one number of a row of the call's own, written over -/
theorem OwnR.setAt {α : Type} {enc : α → Value} {w : World} {base : Nat} {e : TypeId} {g n c : Nat} {xs : List α} (h : OwnR enc w base e (some ⟨g, 0, none⟩) n c xs) {j : Nat} (hj : j < n) (v : α) : OwnR enc (w.setCell ⟨g, j, none⟩ (enc v)) base e (some ⟨g, 0, none⟩) n c (xs.set j v) := by
  obtain ⟨g', rest, e1, hb, hr, hc⟩ := h.row (by omega)
  injection e1 with e1
  injection e1 with e1 _ _
  subst e1
  have hl := h.length
  exact h.over (hr.set (by rw [hl]; exact hj) v) (by rw [List.length_set]; exact hl) hc
theorem repl_stepG {α : Type} (mark : α) (xs : List α) (k : Nat) (h : k < xs.length) : (List.replicate k mark ++ xs.drop k).set k mark = List.replicate (k + 1) mark ++ xs.drop (k + 1) := by
  rw [List.drop_eq_getElem_cons h, List.set_append_right _ _ (by simp)]
  simp only [List.length_replicate, Nat.sub_self, List.set_cons_zero, List.replicate_succ', List.append_assoc, List.cons_append, List.nil_append]
theorem nth_replG {α : Type} [Inhabited α] (n k : Nat) (mark : α) (h : k < n) : nth (List.replicate n mark) k = mark := by
  rw [nth_eq (by simpa using h)]; simp
theorem cell_farN {w : World} {g h o o' : Nat} {u : Value} (hne : g ≠ h) : (w.setCell ⟨h, o, none⟩ u).cell? ⟨g, o', none⟩ = w.cell? ⟨g, o', none⟩ := by
  simp only [World.cell?, Below.heap_setCell w ⟨h, o, none⟩ u g hne]
theorem eiI : EI Try.prog 22 3 (.int .i64 0) 8 := .mk' Try.underlying22 (by kernel_rfl) rfl (by omega)
/-- what roomy gives: three rows of the call's own, each with four marks behind what was told -/
def RoomyPost {γ : Type} (ec : γ → Value) (_tb tc : TypeId) (S Z : List Int) (L : List γ) (mark : γ) (w : World) (e : Ending) (w' : World) : Prop :=
  ∃ A c B d C k, e = .returned (.agg #[.slice A S.length c, .slice B Z.length d, .slice C L.length k]) ∧
    Trio (Value.int .i64) (Value.int .i64) ec w' w.heap.size 3 3 tc A (S.length + 4) c (S ++ List.replicate 4 77) B (Z.length + 4) d (Z ++ List.replicate 4 78) C (L.length + 4) k (L ++ List.replicate 4 mark) ∧ Below w.heap.size w w'
end Go.Proofs.Ytgmchedfgdgenaa
