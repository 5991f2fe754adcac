/- A queue of the call's own: a slice whose elements take some cells, that moves off its row's head. Conditions: lengths within Go's bound. -/
import Derived.Test.YtdlnglffimcopaaHeap
import Derived.ArgAppend
namespace Go.Proofs.Ytdlnglffimcopaa
open Go.RowKit

/-- the cells from place o on, written over -/
def setAll {α : Type} : List α → Nat → List α → List α
  | cs, _, [] => cs
  | cs, o, v :: r => setAll (cs.set o v) (o + 1) r
theorem setAll_length {α : Type} : ∀ (vs cs : List α) (o : Nat), (setAll cs o vs).length = cs.length
  | [], _, _ => rfl
  | v :: r, cs, o => by rw [setAll, setAll_length r]; simp
theorem setAll_getElem? {α : Type} : ∀ (vs cs : List α) (o j : Nat), o + vs.length ≤ cs.length → (setAll cs o vs)[j]? = if j < o then cs[j]? else if j < o + vs.length then vs[j - o]? else cs[j]?
  | [], cs, o, j, h => by
    simp only [setAll, List.length_nil, Nat.add_zero]
    by_cases h1 : j < o
    · rw [if_pos h1]
    · rw [if_neg h1, if_neg h1]
  | v :: r, cs, o, j, h => by
    simp only [List.length_cons] at h
    rw [setAll, setAll_getElem? r (cs.set o v) (o + 1) j (by simp; omega), List.length_cons]
    by_cases h1 : j < o
    · rw [if_pos (by omega), if_pos h1, List.getElem?_set]; rw [if_neg (by omega)]
    · rw [if_neg h1]
      by_cases h2 : j = o
      · subst h2; rw [if_pos (by omega), if_pos (by omega), List.getElem?_set, if_pos rfl]; simp; omega
      · rw [if_neg (by omega)]
        by_cases h3 : j < o + 1 + r.length
        · rw [if_pos h3, if_pos (by omega), show j - o = (j - (o + 1)) + 1 from by omega, List.getElem?_cons_succ]
        · rw [if_neg h3, if_neg (by omega), List.getElem?_set, if_neg (by omega)]
theorem RowC.setAll {g : Nat} {e : TypeId} : ∀ (vs : List Value) {w : World} {cs : List Value} (o : Nat), RowC w g e cs → RowC (w.setCells g o vs) g e (setAll cs o vs)
  | [], _, _, _, h => h
  | v :: r, _, _, o, h => RowC.setAll r (o + 1) (h.put o v)
theorem Turn.setCells {a : World} {S : Nat → Prop} {g : Nat} (hg : g < a.heap.size → S g) : ∀ (vs : List Value) {b : World} (o : Nat), Turn a b S → Turn a (b.setCells g o vs) S
  | [], _, _, h => h
  | v :: r, _, o, h => Turn.setCells hg r (o + 1) (h.setCell ⟨g, o, none⟩ hg v)
theorem World.setCells_size (g : Nat) : ∀ (vs : List Value) (w : World) (o : Nat), (w.setCells g o vs).heap.size = w.heap.size
  | [], _, _ => rfl
  | v :: r, w, o => by rw [World.setCells, World.setCells_size g r]; simp [World.setCell]

/-- the slice A n c reads as the cells cs (s cells each), in a row of the call's own from block base on -/
structure OwnQ (w : World) (base : Nat) (e : TypeId) (s : Nat) (A : Option Addr) (n c : Nat) (cs : List Value) : Prop where
  len : cs.length = n * s
  ex : (A = none ∧ n = 0 ∧ c = 0) ∨ ∃ g off cur, A = some ⟨g, off, none⟩ ∧ base ≤ g ∧ RowC w g e cur ∧ n ≤ c ∧ c ≤ maxLen ∧ off + c * s ≤ cur.length ∧ (cur.drop off).take (n * s) = cs
section
variable {w w' : World} {base : Nat} {e : TypeId} {s : Nat} {A : Option Addr} {n c : Nat} {cs : List Value}
theorem OwnQ.nil (w : World) (base : Nat) (e : TypeId) (s : Nat) : OwnQ w base e s none 0 0 [] := ⟨by simp, .inl ⟨rfl, rfl, rfl⟩⟩
theorem OwnQ.at_row (h : OwnQ w base e s A n c cs) : A = none ∨ ∃ g off, A = some ⟨g, off, none⟩ ∧ base ≤ g ∧ g < w.heap.size := by
  rcases h.ex with ⟨h1, _⟩ | ⟨g, off, cur, h1, h2, h3, _⟩
  · exact .inl h1
  · exact .inr ⟨g, off, h1, h2, h3.lt⟩
theorem OwnQ.turn {S : Nat → Prop} (h : OwnQ w base e s A n c cs) (ht : Turn w w' S) (hS : ∀ g off, A = some ⟨g, off, none⟩ → ¬ S g) : OwnQ w' base e s A n c cs := by
  refine ⟨h.len, ?_⟩
  rcases h.ex with h1 | ⟨g, off, cur, h1, h2, h3, h4⟩
  · exact .inl h1
  · exact .inr ⟨g, off, cur, h1, h2, h3.turn ht (hS g off h1), h4⟩
theorem OwnQ.below (h : OwnQ w base e s A n c cs) (hb : Below w.heap.size w w') : OwnQ w' base e s A n c cs := h.turn (Turn.of_below hb fun _ => False) fun _ _ _ f => f
theorem OwnQ.alloc (h : OwnQ w base e s A n c cs) (o : Obj) : OwnQ (w.alloc o) base e s A n c cs := h.below ((Below.refl _ _).alloc (Nat.le_refl _) o)
theorem OwnQ.drewN (h : OwnQ w base e s A n c cs) (k : Nat) : OwnQ (w.drewN k) base e s A n c cs := h.below (below_refl_drewN _ _ _)
theorem OwnQ.setFar (h : OwnQ w base e s A n c cs) {p : Addr} (hp : ∀ g off, A = some ⟨g, off, none⟩ → g ≠ p.block) (v : Value) : OwnQ (w.setCell p v) base e s A n c cs :=
  h.turn (S := fun b => b = p.block) (Turn.setCell (S := fun b => b = p.block) (Turn.refl w _) p (fun _ => rfl) v) hp
theorem OwnQ.mono (h : OwnQ w base e s A n c cs) {base' : Nat} (hb : base' ≤ base) : OwnQ w base' e s A n c cs := by
  refine ⟨h.len, ?_⟩
  rcases h.ex with h1 | ⟨g, off, cur, h1, h2, h4⟩
  · exact .inl h1
  · exact .inr ⟨g, off, cur, h1, Nat.le_trans hb h2, h4⟩
instance : Stable (fun w => OwnQ w base e s A n c cs) := ⟨fun hb h => h.below hb⟩
/-- its cells -/
theorem OwnQ.cells (h : OwnQ w base e s A n c cs) (hn : 0 < n * s) : ∃ g off, A = some ⟨g, off, none⟩ ∧ base ≤ g ∧ g < w.heap.size ∧ n ≤ c ∧ (∀ j, j < n * s → w.cell? ⟨g, off + j, none⟩ = cs[j]?) ∧ ∀ j, w.frozen? ⟨g, j, none⟩ = false := by
  rcases h.ex with ⟨_, h1, _⟩ | ⟨g, off, cur, h1, h2, h3, h4, h5, h6, h7⟩
  · subst h1; simp at hn
  · refine ⟨g, off, h1, h2, h3.lt, h4, fun j hj => ?_, fun j => h3.frozen j⟩
    rw [h3.cell, ← h7, List.getElem?_take, if_pos hj, List.getElem?_drop]
theorem OwnQ.len_le (h : OwnQ w base e s A n c cs) : n ≤ c := by
  rcases h.ex with ⟨_, h1, h2⟩ | ⟨_, _, _, _, _, _, h4, _⟩ <;> omega
theorem OwnQ.cap_le (h : OwnQ w base e s A n c cs) : c ≤ maxLen := by
  rcases h.ex with ⟨_, h1, h2⟩ | ⟨_, _, _, _, _, _, _, h4, _⟩
  · subst h2; exact Nat.zero_le _
  · exact h4
/-- the first element left out -/
theorem OwnQ.pop (h : OwnQ w base e s A n c cs) (hn : 1 ≤ n) : OwnQ w base e s (if c = 1 then A else A.map (·.add s)) (n - 1) (c - 1) (cs.drop s) := by
  have hs : n * s = (n - 1) * s + s := by rw [Nat.sub_mul, Nat.one_mul]; have : 1 * s ≤ n * s := Nat.mul_le_mul_right _ hn; omega
  refine ⟨by rw [List.length_drop, h.len]; omega, ?_⟩
  rcases h.ex with ⟨_, h1, _⟩ | ⟨g, off, cur, h1, h2, h3, h4, h5, h6, h7⟩
  · omega
  · right
    by_cases hc : c = 1
    · rw [if_pos hc]
      refine ⟨g, off, cur, h1, h2, h3, by omega, by omega, by subst hc; simp at h6 ⊢; omega, ?_⟩
      have : n = 1 := by omega
      subst this
      have e0 : cs.drop s = [] := List.drop_of_length_le (by rw [h.len]; omega)
      rw [e0]; simp
    · rw [if_neg hc, h1]
      have hcs : c * s = (c - 1) * s + s := by rw [Nat.sub_mul, Nat.one_mul]; have : 1 * s ≤ c * s := Nat.mul_le_mul_right _ (by omega); omega
      refine ⟨g, off + s, cur, by simp [Addr.add_lit], h2, h3, by omega, by omega, by omega, ?_⟩
      rw [← h7, List.drop_take, List.drop_drop]
      congr 1
      omega
theorem OwnQ.of_owns {v : Value} (h : w.ownsRow base e s v n cs) : ∃ A c, v = .slice A n c ∧ OwnQ w base e s A n c cs ∧ (∀ g off, A = some ⟨g, off, none⟩ → base ≤ g) := by
  obtain ⟨h1, h2⟩ := h
  rcases h2 with ⟨rfl, rfl⟩ | ⟨g, cap, cur, rfl, h3, h4, h5, h6, h7, h8⟩
  · exact ⟨none, 0, rfl, ⟨h1, .inl ⟨rfl, rfl, rfl⟩⟩, fun _ _ e => by cases e⟩
  · exact ⟨_, cap, rfl, ⟨h1, .inr ⟨g, 0, cur.toList, rfl, h3, by unfold RowC; rw [h4], h5, h6, by rw [Array.length_toList, h7]; omega, by rw [List.drop_zero]; exact h8⟩⟩, fun _ _ e => by injection e with e; injection e with e; omega⟩
end
/-- append onto a queue -/
theorem wpList_app_q {P : Program} (w : World) {ops : Array Oper} {rest : List Oper} {o : Oper} {a : Act} {Q : Exit → Act → World → Prop}
    (hg : o.guard = none) (sl x : Operand) (t : TypeId) (hop : o.op = Op.call { callee := Callee.builtin Builtin.append, args := #[sl, x], argTypes := #[t, t] })
    (e : TypeId) (i : TypeInfo) (z : Value) (s bytes : Nat) (h1 : P.underlying t = some (.slice e)) (h2 : P.info? e = some i) (h3 : i.zero = some z) (h4 : i.size = s) (h5 : i.bytes = bytes) (h6 : z.cells.size = s) (h7 : 0 < s)
    (base : Nat) (A : Option Addr) (n c : Nat) (cs : List Value) (hs : a.eval sl = .slice A n c) (hown : OwnQ w base e s A n c cs) (hbase : base ≤ w.heap.size)
    (ad : Addr) (m d : Nat) (news : List Value) (hx : a.eval x = .slice (some ad) m d) (hn : news.length = m * s) (hc : ∀ j u, news[j]? = some u → w.cell? (ad.add j) = some u) (h1c : ∀ u ∈ news, u.oneCell' = true)
    (hbytes : (n + m) * bytes ≤ 140737488355328) (hb1 : 1 ≤ bytes)
    (hK : ∀ A' c' w', OwnQ w' base e s A' (n + m) c' (cs ++ news) → Turn w w' (fun b => ∃ off, A = some ⟨b, off, none⟩) → (∀ g off, A' = some ⟨g, off, none⟩ → (∃ off', A = some ⟨g, off', none⟩) ∨ w.heap.size ≤ g) →
      wpList P ops Q rest (a.put o.dst (.slice A' (n + m) c')) w') : wpList P ops Q (o :: rest) a w := by
  have hmax : n + m ≤ maxLen := by
    have : (n + m) * 1 ≤ (n + m) * bytes := Nat.mul_le_mul_left _ hb1
    unfold maxLen; omega
  have grow : ∀ v' w', w'.ownsRow w.heap.size e s v' (n + m) (cs ++ news) → w.grownBy w' none → wpList P ops Q rest (a.put o.dst v') w' := fun v' w' ho hgr => by
    obtain ⟨A', c', rfl, hq, hfr⟩ := OwnQ.of_owns ho
    exact hK A' c' w' (hq.mono hbase) ((Turn.of_grown hgr).mono fun _ _ e => by cases e) fun g off e => .inr (hfr g off e)
  rcases hown.ex with ⟨rfl, rfl, rfl⟩ | ⟨g, off, cur, rfl, hb, hr, hle, hcm, hoff, htk⟩
  · have hcs0 : cs = [] := List.eq_nil_of_length_eq_zero (by simpa using hown.len)
    subst hcs0
    rcases Nat.eq_zero_or_pos m with rfl | hm
    · have hn0 : news = [] := List.eq_nil_of_length_eq_zero (by simpa using hn)
      subst hn0
      refine wpList_plain hg fun K' hK' => ?_
      obtain ⟨v', w', hrun, r1, r2, _⟩ := run_append_own (P := P) w w.heap.size t o.type e i z s bytes h1 h2 h3 h4 h5 h6 h7 (.slice none 0 0) 0 [] (World.ownsRow_nil w _ e s) ad 0 d [] (by simp) (fun j u hj => by simp at hj) (fun u hu => by simp at hu) (by omega) (by omega) (Nat.le_refl _)
      unfold Oper.wp
      simp [execOp, hop, resolve, invoke, builtin, hs, hx, hrun, Result.andThen]
      exact hK' _ _ (grow v' w' r1 r2)
    · exact wpList_append_grows w hg sl x t hop e i z s bytes h1 h2 h3 h4 h5 h6 h7 none 0 0 [] hs (fun _ => ⟨rfl, rfl⟩) (by simp) (fun b e => by cases e) ad m d news hx hn hc h1c (by omega) hmax hbytes grow
  · have hcells : ∀ j u, cs[j]? = some u → w.cell? ⟨g, off + j, none⟩ = some u := fun j u hj => by
      rw [hr.cell, ← hj, ← htk, List.getElem?_take]
      have hlt : j < n * s := by
        have := (List.getElem?_eq_some_iff.1 hj).1
        rw [hown.len] at this; exact this
      rw [if_pos hlt, List.getElem?_drop]
    refine wpList_append_arg w hg sl x t hop e i z s bytes h1 h2 h3 h4 h5 h6 h7 g off n c cs hs hown.len hcells ad m d news hx hn hc h1c (fun hroom j hj => ⟨?_, hr.frozen _⟩) hmax hbytes (fun hroom => ?_) fun _ => grow
    · have h9 : (n + m) * s ≤ c * s := Nat.mul_le_mul_right _ hroom
      rw [Nat.add_mul] at h9
      rw [hr.cell, List.getElem?_eq_getElem (by omega)]
      rfl
    · have h9 : (n + m) * s ≤ c * s := Nat.mul_le_mul_right _ hroom
      rw [Nat.add_mul] at h9
      refine hK _ _ _ ⟨by rw [List.length_append, hown.len, hn, Nat.add_mul], .inr ⟨g, off, _, rfl, hb, RowC.setAll news (off + n * s) hr, hroom, hcm, by rw [setAll_length]; exact hoff, ?_⟩⟩ (Turn.setCells (S := fun b => ∃ o, (some ⟨g, off, none⟩ : Option Addr) = some ⟨b, o, none⟩) (fun _ => ⟨off, rfl⟩) news (off + n * s) (Turn.refl w _)) fun g' off' e => .inl ⟨off', by rw [← e]⟩
      apply List.ext_getElem?
      intro j
      rw [List.getElem?_take, List.getElem?_append, hown.len]
      by_cases hj : j < (n + m) * s
      · rw [if_pos hj, List.getElem?_drop, setAll_getElem? _ _ _ _ (by omega)]
        rw [Nat.add_mul] at hj
        by_cases h8 : j < n * s
        · rw [if_pos (by omega), if_pos h8, ← htk, List.getElem?_take, if_pos h8, List.getElem?_drop]
        · rw [if_neg (by omega), if_neg h8, if_pos (by omega)]
          congr 1
          omega
      · rw [if_neg hj]
        rw [Nat.add_mul] at hj
        rw [if_neg (by omega)]
        exact (List.getElem?_eq_none (by omega)).symm
end Go.Proofs.Ytdlnglffimcopaa
