/- Memory of the call's own: make and append with an element type's facts in one word; a row of slices that each own a row. Conditions: lengths within Go's bound. -/
import Derived.Test.YtaibdlnolpbpiaaLists
import Derived.Laws.OwnMore
namespace Go.Proofs.Ytaibdlnolpbpiaa
open Go.RowKit

/-- a slice type's facts: its element type, its zero value, its bytes -/
structure EI (P : Program) (t e : TypeId) (z : Value) (bytes : Nat) : Prop where
  ex : ∃ i : TypeInfo, P.underlying t = some (.slice e) ∧ P.info? e = some i ∧ i.zero = some z ∧ i.size = 1 ∧ i.bytes = bytes
  zs : z.cells = #[z]
  pos : 1 ≤ bytes
theorem EI.mk' {P : Program} {t e : TypeId} {z : Value} {bytes : Nat} (h1 : P.underlying t = some (.slice e)) (h2 : (P.info? e).map (fun i => (i.zero, i.size, i.bytes)) = some (some z, 1, bytes)) (h3 : z.cells = #[z]) (h4 : 1 ≤ bytes) : EI P t e z bytes := by
  obtain ⟨i0, hi, hz0, hz1, hz2⟩ := info_parts h2
  exact ⟨⟨i0, h1, hi, hz0, hz1, hz2⟩, h3, h4⟩
theorem eiInt : EI Try.prog 23 3 (.int .i64 0) 8 := .mk' Try.underlying23 (by kernel_rfl) rfl (by omega)
theorem eiRows : EI Try.prog 22 23 (.slice none 0 0) 24 := .mk' Try.underlying22 (by kernel_rfl) rfl (by omega)

theorem RowAt.setCellFar {α : Type} {enc : α → Value} {w : World} {g : Nat} {e : TypeId} {xs : List α} {rest : List Value} (h : RowAt enc w g e xs rest) {p : Addr} (hp : g ≠ p.block) (u : Value) : RowAt enc (w.setCell p u) g e xs rest := h.far hp u
theorem OwnR.at_row {α : Type} {enc : α → Value} {w : World} {base : Nat} {e : TypeId} {A : Option Addr} {n c : Nat} {xs : List α} (h : OwnR enc w base e A n c xs) : A = none ∨ ∃ g, A = some ⟨g, 0, none⟩ ∧ base ≤ g ∧ g < w.heap.size := by
  rcases h.2 with ⟨hv, _⟩ | ⟨g, cap, cur, hv, hb, hg, _⟩
  · injection hv with e1; exact .inl e1
  · injection hv with e1; exact .inr ⟨g, e1, hb, (Array.getElem?_eq_some_iff.1 hg).1⟩
theorem OwnR.setFar {α : Type} {enc : α → Value} {w : World} {base : Nat} {e : TypeId} {A : Option Addr} {n c : Nat} {xs : List α} (h : OwnR enc w base e A n c xs) {p : Addr} (hp : ∀ g, A = some ⟨g, 0, none⟩ → g ≠ p.block) (u : Value) : OwnR enc (w.setCell p u) base e A n c xs := by
  refine h.grown (row := some p.block) ⟨rfl, rfl, rfl, by simp [World.setCell], fun k _ hne => Below.heap_setCell _ _ _ _ (by rintro rfl; exact hne rfl)⟩ fun g e1 e2 => ?_
  injection e2 with e2
  exact hp g e1 e2.symm

section
variable {P : Program} (w : World)
theorem wpList_app {α : Type} [Inhabited α] {t e : TypeId} {z : Value} {bytes : Nat} (E : EI P t e z bytes) (enc : α → Value) (h1 : ∀ x, (enc x).oneCell' = true) {ops : Array Oper} {rest : List Oper} {o : Oper} {a : Act} {Q : Exit → Act → World → Prop} (hgd : o.guard = none) (s x : Operand)
    (ho : o.op = .call { callee := .builtin .append, args := #[s, x], argTypes := #[t, t] }) (base : Nat) (A : Option Addr) (n c : Nat) (xs : List α) (hs : a.eval s = .slice A n c) (hown : OwnR enc w base e A n c xs)
    (B : Option Addr) (m d : Nat) (ys : List α) (hx : a.eval x = .slice B m d) (hy : Sl enc w B m ys) (hbytes : (n + m) * bytes ≤ 140737488355328) (hbase : base ≤ w.heap.size)
    (h : ∀ A' c' w', OwnR enc w' base e A' (n + m) c' (xs ++ ys) → w.grownBy w' (Value.slice A n c).ownBlock → Below base w w' →
      ((Value.slice A' (n + m) c').ownBlock = (Value.slice A n c).ownBlock ∨ (Value.slice A' (n + m) c').ownBlock = some w.heap.size) → wpList P ops Q rest (a.put o.dst (.slice A' (n + m) c')) w') : wpList P ops Q (o :: rest) a w := by
  obtain ⟨⟨i, e1, e2, e3, e4, e5⟩, hz, hp⟩ := E
  refine wpList_append_sl w enc h1 hgd s x t ho base e i z bytes e1 e2 e3 e4 e5 (by rw [hz]; rfl) A n c xs hs hown B m d ys hx hy ?_ hbytes hbase h
  have : (n + m) * 1 ≤ (n + m) * bytes := Nat.mul_le_mul_left _ hp
  unfold maxLen; omega
theorem wpList_mk {α : Type} [Inhabited α] {t e : TypeId} {z : Value} {bytes : Nat} (E : EI P t e z bytes) (enc : α → Value) (x0 : α) (hx0 : enc x0 = z) {ops : Array Oper} {rest : List Oper} {o : Oper} {a : Act} {Q : Exit → Act → World → Prop} (hgd : o.guard = none) (l c : Operand)
    (ho : o.op = Op.makeSlice t l c) (n : Nat) (hl : a.eval l = .int .i64 (n : Int)) (hc : a.eval c = .int .i64 (n : Int)) (hb : bytes * n ≤ 281474976710656)
    (h : ∀ w', RowAt enc w' w.heap.size e (List.replicate n x0) [] → Below w.heap.size w w' → wpList P ops Q rest (a.put o.dst (.slice (some ⟨w.heap.size, 0, none⟩) n n)) w') : wpList P ops Q (o :: rest) a w := by
  obtain ⟨⟨i, e1, e2, e3, e4, e5⟩, hz, hp⟩ := E
  have hn : 1 * n ≤ bytes * n := Nat.mul_le_mul_right _ hp
  refine wpList_make_full w hgd l c t ho w.heap.size e i z 1 e1 e2 e3 e4 .i64 .i64 _ _ n hl hc rfl rfl (by rw [e5]; exact hb) (by unfold maxLen; omega) (Nat.le_refl _) fun w' h1 h2 => h w' ?_ ⟨h2.os, h2.tape, h2.output, h2.size, fun b hb => h2.block b hb (by simp)⟩
  rcases h1.2 with ⟨h3, _⟩ | ⟨g, cap, cur, h3, h4, h5, h6, h7, h8, h9⟩
  · cases h3
  · injection h3 with e6 e7 e8
    injection e6 with e6
    injection e6 with e6
    subst e6 e8
    have hl := h1.1
    unfold RowAt
    rw [h5]
    congr 2
    rw [hz, Nat.mul_one, toList_madeCells_one] at h9
    rw [Nat.mul_one] at h8
    rw [List.take_of_length_le (by simp [h8])] at h9
    rw [List.map_replicate, hx0, List.append_nil, ← h9]
end

/-- block g is a row of n slices, each owning a row among the blocks from g + 1 on, no two the same one; slice p holds f p -/
structure Owns {α : Type} (enc : α → Value) (w : World) (g : Nat) (te e : TypeId) (n : Nat) (vs : List (Option Addr × Nat × Nat)) (f : Nat → List α) : Prop where
  row : RowAt eS w g te vs []
  len : vs.length = n
  own : ∀ p, p < n → OwnR enc w (g + 1) e (nth vs p).1 (nth vs p).2.1 (nth vs p).2.2 (f p)
  far : ∀ p q, p < n → q < n → p ≠ q → ∀ b, (nth vs p).1 = some ⟨b, 0, none⟩ → (nth vs q).1 ≠ some ⟨b, 0, none⟩
section
variable {α : Type} {enc : α → Value} {w w' : World} {g n : Nat} {te e : TypeId} {vs : List (Option Addr × Nat × Nat)} {f : Nat → List α}
theorem Owns.start (h : RowAt eS w g te (List.replicate n (none, 0, 0)) []) : Owns enc w g te e n (List.replicate n (none, 0, 0)) (fun _ => []) := by
  have hn : ∀ p, p < n → nth (List.replicate n ((none : Option Addr), 0, 0)) p = (none, 0, 0) := fun p hp => by rw [nth_eq (by simpa using hp)]; simp
  exact ⟨h, by simp, fun p hp => by rw [hn p hp]; exact OwnR.nil _ _ _ _, fun p q hp hq _ b e => by rw [hn p hp] at e; cases e⟩
theorem Owns.below (h : Owns enc w g te e n vs f) (hb : Below w.heap.size w w') : Owns enc w' g te e n vs f :=
  ⟨h.row.below hb h.row.lt, h.len, fun p hp => (h.own p hp).below (Nat.le_refl _) hb, h.far⟩
instance : Stable (fun w => Owns enc w g te e n vs f) := ⟨fun hb h => h.below hb⟩
theorem Owns.cell (h : Owns enc w g te e n vs f) {p : Nat} (hp : p < n) : w.cell? ⟨g, p, none⟩ = some (.slice (nth vs p).1 (nth vs p).2.1 (nth vs p).2.2) := h.row.cell (by rw [h.len]; exact hp)
theorem Owns.rows [Inhabited α] (h : Owns enc w g te e n vs f) (hn : n ≤ 140737488351232) (hl : ∀ p, p < n → (f p).length ≤ 140737488351232) : Rows enc w (some ⟨g, 0, none⟩) n ((List.range n).map f) := by
  refine ⟨⟨vs, ?_, fun i hi => ?_⟩, by simp⟩
  · have := h.row.sl (by rw [h.len]; exact hn); rw [h.len] at this; exact this
  · rw [nth_map _ (by simpa using hi)]
    have e : nth (List.range n) i = i := by rw [nth_eq (by simpa using hi)]; simp
    rw [e]
    have h1 := (h.own i hi).length
    have h2 := hl i hi
    exact ⟨(h.own i hi).sl (by omega), (h.own i hi).cap⟩
theorem Owns.rowsF [Inhabited α] (h : Owns enc w g te e n vs f) (hn : n ≤ 140737488351232) (hl : ∀ p, p < n → (f p).length ≤ 140737488351232) : RowsF g enc w (some ⟨g, 0, none⟩) n ((List.range n).map f) := by
  refine ⟨⟨vs, ?_, fun b off e => by injection e with e; injection e with e; omega, fun i hi => ⟨?_, ((h.own i hi).fr).mono (Nat.le_succ g), (h.own i hi).cap⟩⟩, by simp⟩
  · have := h.row.sl (by rw [h.len]; exact hn); rw [h.len] at this; exact this
  · rw [nth_map _ (by simpa using hi)]
    have e : nth (List.range n) i = i := by rw [nth_eq (by simpa using hi)]; simp
    rw [e]
    have h1 := (h.own i hi).length
    have h2 := hl i hi
    exact (h.own i hi).sl (by omega)
/-- behind an append onto slice p: what has turned is its own row, or a new one -/
theorem Owns.append (h : Owns enc w g te e n vs f) {p : Nat} (hp : p < n) {A' : Option Addr} {m' c' : Nat} {ys : List α} (hown : OwnR enc w' (g + 1) e A' m' c' ys)
    (hg : w.grownBy w' (Value.slice (nth vs p).1 (nth vs p).2.1 (nth vs p).2.2).ownBlock) (hd : (Value.slice A' m' c').ownBlock = (Value.slice (nth vs p).1 (nth vs p).2.1 (nth vs p).2.2).ownBlock ∨ ∃ b, (Value.slice A' m' c').ownBlock = some b ∧ w.heap.size ≤ b) :
    Owns enc (w'.setCell ⟨g, p, none⟩ (.slice A' m' c')) g te e n (vs.set p (A', m', c')) (fun x => if x = p then ys else f x) := by
  have hne : ∀ b, (nth vs p).1 = some ⟨b, 0, none⟩ → g < b := fun b e => by
    rcases (h.own p hp).at_row with h1 | ⟨g', h1, h2, _⟩
    · rw [e] at h1; cases h1
    · rw [e] at h1; injection h1 with h1; injection h1 with h1; omega
  have hob : ∀ b, (Value.slice (nth vs p).1 (nth vs p).2.1 (nth vs p).2.2).ownBlock = some b → (nth vs p).1 = some ⟨b, 0, none⟩ := fun b e => by
    rcases (h.own p hp).at_row with h1 | ⟨g', h1, _⟩
    · rw [h1] at e; cases e
    · rw [h1] at e ⊢; injection e with e; rw [← e]
  have hrow : RowAt eS w' g te vs [] := h.row.grown hg fun e => by
    have := hne g (hob g e.symm)
    omega
  have hset := hrow.set (j := p) (by rw [h.len]; exact hp) (A', m', c')
  have hA : ∀ b, A' = some ⟨b, 0, none⟩ → g < b ∧ ((nth vs p).1 = some ⟨b, 0, none⟩ ∨ w.heap.size ≤ b) := fun b e => by
    have h1 : g < b := by
      rcases hown.at_row with h1 | ⟨g', h1, h2, _⟩
      · rw [e] at h1; cases h1
      · rw [e] at h1; injection h1 with h1; injection h1 with h1; omega
    refine ⟨h1, ?_⟩
    have h2 : (Value.slice A' m' c').ownBlock = some b := by rw [e]; rfl
    rcases hd with hd | hd
    · exact .inl (hob b (by rw [← hd]; exact h2))
    · obtain ⟨b', hd, hle⟩ := hd
      rw [h2] at hd; injection hd with hd; subst hd; exact .inr hle
  refine ⟨hset, by simpa using h.len, fun q hq => ?_, fun q r hq hr hqr b e1 e2 => ?_⟩
  · by_cases hqp : q = p
    · subst hqp
      rw [nth_set_same (by rw [h.len]; exact hq), if_pos rfl]
      exact hown.setFar (fun b e => by have := (hA b e).1; simp; omega) _
    · rw [nth_set_other (fun e => hqp e.symm), if_neg hqp]
      refine ((h.own q hq).grown hg fun b e e2 => ?_).setFar (fun b e => ?_) _
      · exact h.far q p hq hp hqp b e (hob b e2)
      · rcases (h.own q hq).at_row with h1 | ⟨g', h1, h2, _⟩
        · rw [e] at h1; cases h1
        · rw [e] at h1; injection h1 with h1; injection h1 with h1; simp; omega
  · have hlt : ∀ q b, q < n → (nth vs q).1 = some ⟨b, 0, none⟩ → b < w.heap.size := fun q b hq e => by
      rcases (h.own q hq).at_row with h1 | ⟨g', h1, _, h3⟩
      · rw [e] at h1; cases h1
      · rw [e] at h1; injection h1 with h1; injection h1 with h1; omega
    by_cases hqp : q = p
    · subst hqp
      rw [nth_set_same (by rw [h.len]; exact hq)] at e1
      rw [nth_set_other hqr] at e2
      rcases (hA b e1).2 with h1 | h1
      · exact h.far q r hq hr hqr b h1 e2
      · have := hlt r b hr e2; omega
    · rw [nth_set_other (fun e => hqp e.symm)] at e1
      by_cases hrp : r = p
      · subst hrp
        rw [nth_set_same (by rw [h.len]; exact hr)] at e2
        rcases (hA b e2).2 with h1 | h1
        · exact h.far q r hq hr hqr b e1 h1
        · have := hlt q b hq e1; omega
      · rw [nth_set_other (fun e => hrp e.symm)] at e2
        exact h.far q r hq hr hqr b e1 e2
end
end Go.Proofs.Ytaibdlnolpbpiaa
