/- Laws at the operations append, clear, copy, said of slices that read as lists. Conditions: elements of one cell; the lengths stay below Go's bound. -/
import Derived.Test.YtgmchedfgdgenaaBase
import Derived.Lib.SliceRun
import Derived.Laws.IdiomCopy
namespace Go.Proofs.Ytgmchedfgdgenaa
open Go.RowKit

section
variable {α : Type} [Inhabited α] {enc : α → Value} {w w' : World}

/-- a new block of one element -/
theorem Sl.one (w : World) (e : TypeId) (x : α) : Sl enc (w.alloc (.cells #[enc x] e)) (some ⟨w.heap.size, 0, none⟩) 1 [x] :=
  ⟨rfl, by omega, fun _ => ⟨w.heap.size, 0, rfl, by simp, fun j hj => by
    obtain rfl : j = 0 := by omega
    rw [cell_of_row _ _ _ _ _ _ (heap_alloc_new w _)]
    simp [nth]⟩⟩
theorem Sl.news {n : Nat} {xs : List α} {ad : Addr} (h : Sl enc w (some ad) n xs) : ∀ j u, (xs.map enc)[j]? = some u → w.cell? (ad.add j) = some u := by
  intro j u hu
  have hj : j < xs.length := by
    rcases Nat.lt_or_ge j xs.length with h1 | h1
    · exact h1
    · rw [List.getElem?_eq_none (by simpa using h1)] at hu; cases hu
  obtain ⟨b, off, e, _, hc⟩ := h.at' (by rw [← h.len]; omega)
  injection e with e
  subst e
  rw [show (⟨b, off, none⟩ : Addr).add j = ⟨b, off + j, none⟩ from Addr.add_lit _ _ _, hc j (by rw [← h.len]; exact hj)]
  rw [List.getElem?_map, nth_get? hj] at hu
  exact hu
end

section
variable {P : Program} (w : World)
/-- append onto a row of the call's own, of whatever slice that reads as a list -/
theorem run_append_sl {α : Type} [Inhabited α] (enc : α → Value) (h1 : ∀ x, (enc x).oneCell' = true) (base : Nat) (t ty e : TypeId) (i : TypeInfo) (z : Value) (bytes : Nat) (ht : P.underlying t = some (.slice e)) (hi : P.info? e = some i)
    (hz : i.zero = some z) (hsize : i.size = 1) (hby : i.bytes = bytes) (hzs : z.cells.size = 1) (A : Option Addr) (n c : Nat) (xs : List α) (hown : OwnR enc w base e A n c xs)
    (B : Option Addr) (m d : Nat) (ys : List α) (hy : Sl enc w B m ys) (h63 : n + m ≤ maxLen) (hbytes : (n + m) * bytes ≤ 140737488355328) (hbase : base ≤ w.heap.size) :
    ∃ A' c' w', (Builtin.append_ #[t, t] ty #[.slice A n c, .slice B m d]).run P w = .ok (.slice A' (n + m) c') w' ∧ OwnR enc w' base e A' (n + m) c' (xs ++ ys) ∧ w.grownBy w' (Value.slice A n c).ownBlock ∧ Below base w w' ∧
      ((Value.slice A' (n + m) c').ownBlock = (Value.slice A n c).ownBlock ∨ (Value.slice A' (n + m) c').ownBlock = some w.heap.size) := by
  have hrow : ∀ k, (Value.slice A n c).ownBlock = some k → base ≤ k := fun k hk => (World.ownsRow.lt hown k hk).1
  rcases B with _ | ad
  · have hm : m = 0 := by
      rcases Nat.eq_zero_or_pos m with h0 | h0
      · exact h0
      · obtain ⟨b, off, e, _⟩ := hy.at' h0
        cases e
    subst hm
    have hyn : ys = [] := List.eq_nil_of_length_eq_zero hy.len
    subst hyn
    refine ⟨A, c, w, ?_, by simpa using hown, World.grownBy.refl w _, Below.refl _ _, .inl rfl⟩
    rcases hown.2 with ⟨hv, _⟩ | ⟨g, cap, cur, hv, _, _, hnc, _⟩
    · injection hv with e1 e2 e3; subst e1 e2 e3
      simp [Builtin.append_, run_underlying ht, sizeOf, typeInfo, hi, Builtin.lenOf, Builtin.firstCells]
    · injection hv with e1 e2 e3; subst e1 e3
      simp [Builtin.append_, run_underlying ht, sizeOf, typeInfo, hi, Builtin.lenOf, Builtin.firstCells, hnc, storeCells]
  · obtain ⟨v', w', hrun, h2, h3, _, h5⟩ := run_append_own_at (P := P) w base t ty e i z 1 bytes ht hi hz hsize hby hzs (by omega) (.slice A n c) n (xs.map enc) hown ad m d (ys.map enc) (by simpa using hy.len) (Sl.news hy)
      (by intro u hu; obtain ⟨y, _, rfl⟩ := List.mem_map.1 hu; exact h1 y) h63 hbytes hbase
    have hv : ∃ A' c', v' = .slice A' (n + m) c' := by
      rcases h2.2 with ⟨rfl, h0⟩ | ⟨g, cap, cur, rfl, _⟩
      · exact ⟨none, 0, by rw [h0]⟩
      · exact ⟨_, cap, rfl⟩
    obtain ⟨A', c', rfl⟩ := hv
    refine ⟨A', c', w', hrun, ?_, h3, (Below.refl _ _).grown h3 hbase hrow, h5⟩
    unfold OwnR
    rw [List.map_append]
    exact h2
theorem wpList_append_sl {α : Type} [Inhabited α] (enc : α → Value) (h1 : ∀ x, (enc x).oneCell' = true) {ops : Array Oper} {rest : List Oper} {o : Oper} {a : Act} {Q : Exit → Act → World → Prop} (hgd : o.guard = none) (s x : Operand) (t : TypeId)
    (ho : o.op = .call { callee := .builtin .append, args := #[s, x], argTypes := #[t, t] })
    (base : Nat) (e : TypeId) (i : TypeInfo) (z : Value) (bytes : Nat) (ht : P.underlying t = some (.slice e)) (hi : P.info? e = some i)
    (hz : i.zero = some z) (hsize : i.size = 1) (hby : i.bytes = bytes) (hzs : z.cells.size = 1) (A : Option Addr) (n c : Nat) (xs : List α) (hs : a.eval s = .slice A n c) (hown : OwnR enc w base e A n c xs)
    (B : Option Addr) (m d : Nat) (ys : List α) (hx : a.eval x = .slice B m d) (hy : Sl enc w B m ys) (h63 : n + m ≤ maxLen) (hbytes : (n + m) * bytes ≤ 140737488355328) (hbase : base ≤ w.heap.size)
    (h : ∀ A' c' w', OwnR enc w' base e A' (n + m) c' (xs ++ ys) → w.grownBy w' (Value.slice A n c).ownBlock → Below base w w' →
      ((Value.slice A' (n + m) c').ownBlock = (Value.slice A n c).ownBlock ∨ (Value.slice A' (n + m) c').ownBlock = some w.heap.size) → wpList P ops Q rest (a.put o.dst (.slice A' (n + m) c')) w') : wpList P ops Q (o :: rest) a w := by
  refine wpList_plain hgd fun K hK => ?_
  obtain ⟨A', c', w', hr, h2, h3, h4, h5⟩ := run_append_sl (P := P) w enc h1 base t o.type e i z bytes ht hi hz hsize hby hzs A n c xs hown B m d ys hy h63 hbytes hbase
  unfold Oper.wp execOp
  simp only [ho, resolve, invoke, builtin, Sem.run_bind, Sem.run_pure, Result.andThen_ok, List.map_toArray, List.map_cons, List.map_nil, hs, hx, hr]
  exact hK _ _ (h A' c' w' h2 h3 h4 h5)
theorem step_append_sl {α : Type} [Inhabited α] (enc : α → Value) (h1 : ∀ x, (enc x).oneCell' = true) {ops : Array Oper} {o : Oper} {a : Act} {K : Act → World → Prop} {Q : Exit → Act → World → Prop} {E : Prop} (hgd : o.guard = none) (s x : Operand) (t : TypeId)
    (ho : o.op = .call { callee := .builtin .append, args := #[s, x], argTypes := #[t, t] })
    (base : Nat) (e : TypeId) (i : TypeInfo) (z : Value) (bytes : Nat) (ht : P.underlying t = some (.slice e)) (hi : P.info? e = some i)
    (hz : i.zero = some z) (hsize : i.size = 1) (hby : i.bytes = bytes) (hzs : z.cells.size = 1) (A : Option Addr) (n c : Nat) (xs : List α) (hs : a.eval s = .slice A n c) (hown : OwnR enc w base e A n c xs)
    (B : Option Addr) (m d : Nat) (ys : List α) (hx : a.eval x = .slice B m d) (hy : Sl enc w B m ys) (h63 : n + m ≤ maxLen) (hbytes : (n + m) * bytes ≤ 140737488355328) (hbase : base ≤ w.heap.size)
    (h : ∀ A' c' w', OwnR enc w' base e A' (n + m) c' (xs ++ ys) → w.grownBy w' (Value.slice A n c).ownBlock → Below base w w' →
      ((Value.slice A' (n + m) c').ownBlock = (Value.slice A n c).ownBlock ∨ (Value.slice A' (n + m) c').ownBlock = some w.heap.size) → K (a.put o.dst (.slice A' (n + m) c')) w') :
    if Region.wanted o (yielded ops a.tmps) = true then Oper.wp P o a w K Q else E := by
  have hw : Region.wanted o (yielded ops a.tmps) = true := by simp [Region.wanted, hgd]
  rw [if_pos hw]
  obtain ⟨A', c', w', hr, h2, h3, h4, h5⟩ := run_append_sl (P := P) w enc h1 base t o.type e i z bytes ht hi hz hsize hby hzs A n c xs hown B m d ys hy h63 hbytes hbase
  unfold Oper.wp execOp
  simp only [ho, resolve, invoke, builtin, Sem.run_bind, Sem.run_pure, Result.andThen_ok, List.map_toArray, List.map_cons, List.map_nil, hs, hx, hr]
  exact h A' c' w' h2 h3 h4 h5
end

theorem RowC.set {w : World} {g : Nat} {e : TypeId} {A B : List Value} {u v : Value} (h : RowC w g e (A ++ u :: B)) : RowC (w.setCell ⟨g, A.length, none⟩ v) g e (A ++ v :: B) := by
  unfold RowC at h ⊢
  simp only [World.setCell, Array.getElem?_modify, if_true, h, Option.map_some]
  congr 2
  rw [List.setIfInBounds_toArray, List.set_append_right _ _ (Nat.le_refl _)]
  simp
theorem RowC.setCells {g : Nat} {e : TypeId} {C : List Value} : ∀ (vs B A : List Value) (w : World), RowC w g e (A ++ B ++ C) → vs.length = B.length → RowC (w.setCells g A.length vs) g e (A ++ vs ++ C)
  | [], B, A, w, h, hl => by
    obtain rfl : B = [] := List.eq_nil_of_length_eq_zero (by simpa using hl.symm)
    exact h
  | v :: vs, [], A, w, h, hl => by simp at hl
  | v :: vs, b :: B, A, w, h, hl => by
    have h1 : RowC w g e (A ++ b :: (B ++ C)) := by simpa using h
    have h2 := RowC.setCells vs B (A ++ [v]) _ (C := C) (by simpa using h1.set (v := v)) (by simpa using hl)
    rw [World.setCells]
    simpa using h2
theorem grown_setCells {a : World} {g : Nat} : ∀ (vs : List Value) (o : Nat) (w : World), a.grownBy w (some g) → a.grownBy (w.setCells g o vs) (some g)
  | [], _, _, h => h
  | v :: vs, o, _, h => grown_setCells vs (o + 1) _ (grown_setCell h o v)

section
variable {P : Program} (w : World)
/-- clear on the tail of a row of the call's own -/
theorem run_clear_row {α : Type} [Inhabited α] (enc : α → Value) (t e ty : TypeId) (z : Value) (ht : P.underlying t = some (.slice e)) (hv : ∀ w, (zeroValue e).run P w = .ok z w) (hz : z.cells = #[z]) (h1 : z.oneCell' = true)
    (g k m d : Nat) (xs : List α) (rest : List Value) (hr : RowAt enc w g e xs rest) (hm : k + m = xs.length) :
    ∃ w', (Builtin.clear_ #[t] ty #[.slice (some ⟨g, k, none⟩) m d]).run P w = .ok (.tuple #[]) w' ∧ RowAt enc w' g e (xs.take k) (List.replicate m z ++ rest) ∧ w.grownBy w' (some g) := by
  rcases Nat.eq_zero_or_pos m with rfl | hp
  · refine ⟨w, by simp [Builtin.clear_, run_underlying ht], ?_, World.grownBy.refl _ _⟩
    rw [List.take_of_length_le (by omega)]
    exact hr
  · refine ⟨_, Go.Lib.run_clear_slice w t e ty z ht hv hz h1 g k m d hp (fun j hj => by rw [hr.cell (by omega)]; rfl) (fun j _ => hr.frozen _), ?_, grown_setCells _ _ _ (World.grownBy.refl _ _)⟩
    have h2 := RowC.setCells (g := g) (e := e) (C := rest) (List.replicate m z) ((xs.drop k).map enc) ((xs.take k).map enc) w (by
      unfold RowC
      rw [← List.map_append, List.take_append_drop]
      exact hr) (by simp; omega)
    have e3 : ((xs.take k).map enc).length = k := by simp; omega
    rw [e3] at h2
    unfold RowAt
    unfold RowC at h2
    rw [h2, List.append_assoc]
theorem wpList_clear_row {α : Type} [Inhabited α] (enc : α → Value) {ops : Array Oper} {rs : List Oper} {o : Oper} {a : Act} {Q : Exit → Act → World → Prop} (hgd : o.guard = none) (x : Operand) (t : TypeId)
    (ho : o.op = .call { callee := .builtin .clear, args := #[x], argTypes := #[t] }) (e : TypeId) (z : Value) (ht : P.underlying t = some (.slice e)) (hv : ∀ w, (zeroValue e).run P w = .ok z w) (hz : z.cells = #[z]) (h1 : z.oneCell' = true)
    (g k m d : Nat) (hx : a.eval x = .slice (some ⟨g, k, none⟩) m d) (xs : List α) (rest : List Value) (hr : RowAt enc w g e xs rest) (hm : k + m = xs.length)
    (h : ∀ w', RowAt enc w' g e (xs.take k) (List.replicate m z ++ rest) → w.grownBy w' (some g) → wpList P ops Q rs (a.put o.dst (.tuple #[])) w') : wpList P ops Q (o :: rs) a w := by
  refine wpList_plain hgd fun K hK => ?_
  obtain ⟨w', hrun, h2, h3⟩ := run_clear_row (P := P) w enc t e o.type z ht hv hz h1 g k m d xs rest hr hm
  unfold Oper.wp execOp
  simp only [ho, resolve, invoke, builtin, Sem.run_bind, Sem.run_pure, Result.andThen_ok, List.map_toArray, List.map_cons, List.map_nil, hx, hrun]
  exact hK _ _ (h w' h2 h3)
end

section
variable {P : Program} (w : World)
/-- append within a row of the call's own: there is room; the source may lie in the same row -/
theorem run_append_in {α : Type} [Inhabited α] (enc : α → Value) (h1 : ∀ x, (enc x).oneCell' = true) (t ty e : TypeId) (i : TypeInfo) (ht : P.underlying t = some (.slice e)) (hi : P.info? e = some i) (hsize : i.size = 1)
    (g k c : Nat) (xs : List α) (rest : List Value) (hr : RowAt enc w g e xs rest) (B : Option Addr) (m d : Nat) (ys : List α) (hy : Sl enc w B m ys) (hk : k + m ≤ xs.length) (hc : k + m ≤ c) :
    ∃ w', (Builtin.append_ #[t, t] ty #[.slice (some ⟨g, 0, none⟩) k c, .slice B m d]).run P w = .ok (.slice (some ⟨g, 0, none⟩) (k + m) c) w' ∧ RowAt enc w' g e (xs.take k ++ ys ++ xs.drop (k + m)) rest ∧ w.grownBy w' (some g) := by
  rcases B with _ | ad
  · have hm : m = 0 := by
      rcases Nat.eq_zero_or_pos m with h0 | h0
      · exact h0
      · obtain ⟨b, off, e, _⟩ := hy.at' h0
        cases e
    subst hm
    have hyn : ys = [] := List.eq_nil_of_length_eq_zero hy.len
    subst hyn
    refine ⟨w, ?_, by simpa using hr, World.grownBy.refl w _⟩
    have hkc : k ≤ c := by omega
    simp [Builtin.append_, run_underlying ht, sizeOf, typeInfo, hi, Builtin.lenOf, Builtin.firstCells, hkc, storeCells]
  · have hrun := run_append_room (P := P) w t ty e i ht hi g k c _ hr ad m d (ys.map enc) (by rw [hsize]; simpa using hy.len) (Sl.news hy)
      (by intro u hu; obtain ⟨y, _, rfl⟩ := List.mem_map.1 hu; exact h1 y) hc (by rw [hsize]; have := hy.len; simp; omega)
    refine ⟨_, hrun, ?_, ⟨rfl, rfl, rfl, by simp, fun j _ hj => setRow_other w g j _ (fun e => hj (by rw [e]))⟩⟩
    unfold RowAt
    rw [setRow_heap w g _ _ e _ hr]
    congr 3
    have hyl := hy.len
    rw [hsize]
    simp only [Nat.mul_one, List.length_map, hyl]
    rw [List.take_append_of_le_length (by simp; omega), List.drop_append_of_le_length (by simp; omega)]
    simp [List.map_append, List.map_take, List.map_drop, List.append_assoc]
theorem wpList_append_in {α : Type} [Inhabited α] (enc : α → Value) (h1 : ∀ x, (enc x).oneCell' = true) {ops : Array Oper} {rs : List Oper} {o : Oper} {a : Act} {Q : Exit → Act → World → Prop} (hgd : o.guard = none) (s x : Operand) (t : TypeId)
    (ho : o.op = .call { callee := .builtin .append, args := #[s, x], argTypes := #[t, t] }) (e : TypeId) (i : TypeInfo) (ht : P.underlying t = some (.slice e)) (hi : P.info? e = some i) (hsize : i.size = 1)
    (g k c : Nat) (hs : a.eval s = .slice (some ⟨g, 0, none⟩) k c) (xs : List α) (rest : List Value) (hr : RowAt enc w g e xs rest) (B : Option Addr) (m d : Nat) (ys : List α) (hx : a.eval x = .slice B m d) (hy : Sl enc w B m ys)
    (hk : k + m ≤ xs.length) (hc : k + m ≤ c)
    (h : ∀ w', RowAt enc w' g e (xs.take k ++ ys ++ xs.drop (k + m)) rest → w.grownBy w' (some g) → wpList P ops Q rs (a.put o.dst (.slice (some ⟨g, 0, none⟩) (k + m) c)) w') : wpList P ops Q (o :: rs) a w := by
  refine wpList_plain hgd fun K hK => ?_
  obtain ⟨w', hrun, h2, h3⟩ := run_append_in (P := P) w enc h1 t o.type e i ht hi hsize g k c xs rest hr B m d ys hy hk hc
  unfold Oper.wp execOp
  simp only [ho, resolve, invoke, builtin, Sem.run_bind, Sem.run_pure, Result.andThen_ok, List.map_toArray, List.map_cons, List.map_nil, hs, hx, hrun]
  exact hK _ _ (h w' h2 h3)
end
/-- a piece of a row reads as the piece of the list -/
theorem RowAt.piece {α : Type} [Inhabited α] {enc : α → Value} {w : World} {g : Nat} {e : TypeId} {xs : List α} {rest : List Value} (h : RowAt enc w g e xs rest) {k : Nat} (hk : k ≤ xs.length) (hbig : xs.length ≤ 140737488351232) :
    Sl enc w (some ⟨g, k, none⟩) (xs.length - k) (xs.drop k) :=
  ⟨by simp, by omega, fun _ => ⟨g, k, rfl, h.lt, fun j hj => by rw [h.cell (by omega), nth_drop]⟩⟩
end Go.Proofs.Ytgmchedfgdgenaa
