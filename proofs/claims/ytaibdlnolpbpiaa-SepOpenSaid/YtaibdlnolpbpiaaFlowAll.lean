/- Joined by program out of: Keys, Queue, Next, Goes, Flow, Flood, Tells. What each says stands at its own head. -/
import Derived.Test.YtaibdlnolpbpiaaMap
import Derived.Test.YtaibdlnolpbpiaaBall
import Derived.DeepKeys4
import Derived.DeepKeys2
import Derived.Test.YtaibdlnolpbpiaaHeap
import Derived.ArgAppend
import Derived.Test.YtaibdlnolpbpiaaLook
import Derived.Shelf.Abstract
import Derived.Deep.LoopGhost
import Derived.Maps.RangeWalk
/- A state as a map's key: what it reads as, and that no two read alike. Condition: the points within Go's bound. -/
namespace Go.Proofs.Ytaibdlnolpbpiaa
open Go.RowKit Go.Maps

/-- a state, as Go holds it -/
abbrev sV (s : St) : Value := .agg #[.int .i64 (s.1 : Int), .bool s.2]
/-- what it reads as among keys -/
def kS (s : St) : Lit := .string (keyBytes [.int .i64 (s.1 : Int), .bool s.2])
def okS (s : St) : Prop := s.1 ≤ 140737488355328
theorem wideState : (match Try.prog.underlying 63 with | some (.array _ _) | some (.struct _) => true | _ => false) = true := by kernel_rfl
set_option maxRecDepth 1000000 in
theorem laidAll : laidOutB Try.prog = true := by kernel_rfl
set_option maxRecDepth 1000000 in
theorem law63 : Keyed Try.prog 63 := Keyed.of_law (deep_law_laid laidAll (m := 2) (by omega) (of_decide_eq_true (by kernel_rfl)) (by kernel_rfl) wideState)
theorem cellsState : Try.prog.cellsOf 63 = 2 := by kernel_rfl
theorem deepState : Try.prog.keyType 63 = true := by kernel_rfl
theorem cellsI : Try.prog.cellsOf 3 = 1 := by kernel_rfl
theorem cellsB : Try.prog.cellsOf 4 = 1 := by kernel_rfl
theorem sizeTwo : ∃ d, Try.prog.types.size + 1 = d + 2 := ⟨Try.prog.types.size - 1, by have h : 0 < Try.prog.types.size := of_decide_eq_true (by kernel_rfl); omega⟩
theorem keyLits_mk (d : Nat) {x : Int} (hx : (Lit.int .i64 x).wf = true) (u : Bool) : Try.prog.keyLits (d + 2) 63 [.int .i64 x, .bool u] = some [.int .i64 x, .bool u] := by
  simp [Program.keyLits, Try.underlying63, Try.underlying3, Try.underlying4, cellsState, cellsI, cellsB, hx]
theorem keyOf_sV {s : St} (h : okS s) : keyOf Try.prog 63 (sV s) = some (kS s) := by
  have hw : (Lit.int .i64 (s.1 : Int)).wf = true := WalkArith.wf_i64 (by unfold okS at h; omega)
  obtain ⟨d, hd⟩ := sizeTwo
  unfold keyOf
  rw [Try.underlying63]
  simp only []
  rw [deepState]
  have hf : (sV s).formed Try.prog 63 = true := by simp [Value.formed, Try.underlying63, cellsState]
  rw [hf, hd]
  have hc : (sV s).cells.toList = [.int .i64 (s.1 : Int), .bool s.2] := by simp [Value.cells]
  rw [hc, keyLits_mk d hw]
  rfl
set_option maxRecDepth 1000000 in
theorem keyOf_state {v : Value} {l : Lit} (h : keyOf Try.prog 63 v = some l) : ∃ x : Int × Bool, v = .agg #[.int .i64 x.1, .bool x.2] := by
  obtain ⟨xs, L, rfl, hL, _⟩ := keyOf_top wideState h
  obtain ⟨d, hd⟩ := sizeTwo
  rw [hd] at hL
  unfold Program.keyLits at hL
  rw [Try.underlying63] at hL
  simp only [cellsState] at hL
  split at hL
  · rename_i hc
    obtain ⟨xs⟩ := xs
    rcases xs with _ | ⟨a, _ | ⟨b, _ | ⟨c, xs⟩⟩⟩
    · simp at hc
    · simp at hc
    · have hb : ∃ u, b = .bool u := by
        cases b
        case bool u => exact ⟨u, rfl⟩
        all_goals (exfalso; revert hL; simp [cellsI, cellsB, Program.keyLits, Try.underlying3, Try.underlying4])
      obtain ⟨u, rfl⟩ := hb
      cases a
      case int q x =>
        by_cases hq : q = .i64
        · subst hq; exact ⟨(x, u), rfl⟩
        · exfalso; revert hL; simp [cellsI, cellsB, Program.keyLits, Try.underlying3, Try.underlying4, hq]
      all_goals (exfalso; revert hL; simp [cellsI, cellsB, Program.keyLits, Try.underlying3, Try.underlying4])
    · simp at hc
  · cases hL
theorem kS_inj {s t : St} (hs : okS s) (ht : okS t) (h : kS s = kS t) : s = t := by
  have h1 := keyOf_sV hs
  have h2 := keyOf_sV ht
  rw [← h] at h2
  have := law63.inj h1 h2
  obtain ⟨p, u⟩ := s
  obtain ⟨q, v⟩ := t
  simp only [sV, Value.agg.injEq, Array.mk.injEq, List.cons.injEq, Value.int.injEq, Value.bool.injEq] at this
  simp at this
  obtain ⟨h1, h2⟩ := this
  exact Prod.ext (by show p = q; omega) h2
open Classical in
/-- what a map keyed by states reads as -/
noncomputable def liftS (g : St → Option Int) : Lit → Option Int := fun l => if h : ∃ s, okS s ∧ kS s = l then g (Classical.choose h) else none
open Classical in
noncomputable def putS (g : St → Option Int) (s : St) (v : Int) : St → Option Int := fun t => if t = s then some v else g t
theorem liftS_kS (g : St → Option Int) {s : St} (h : okS s) : liftS g (kS s) = g s := by
  have hx : ∃ t, okS t ∧ kS t = kS s := ⟨s, h, rfl⟩
  unfold liftS
  rw [dif_pos hx]
  obtain ⟨h1, h2⟩ := Classical.choose_spec hx
  rw [kS_inj h1 h h2]
theorem liftS_some {g : St → Option Int} {l : Lit} (h : (liftS g l).isSome = true) : ∃ s, okS s ∧ kS s = l := by
  unfold liftS at h
  split at h
  · assumption
  · cases h
theorem putF_liftS (g : St → Option Int) {s : St} (hs : okS s) (v : Int) (l : Lit) : putF (liftS g) (kS s) v l = liftS (putS g s v) l := by
  unfold putF
  by_cases h : l = kS s
  · subst h; rw [if_pos rfl, liftS_kS _ hs]; unfold putS; rw [if_pos rfl]
  · rw [if_neg h]
    by_cases hx : ∃ t, okS t ∧ kS t = l
    · obtain ⟨t, ht, rfl⟩ := hx
      rw [liftS_kS _ ht, liftS_kS _ ht]
      unfold putS
      rw [if_neg (fun e => h (by rw [e]))]
    · unfold liftS; rw [dif_neg hx, dif_neg hx]
/-- block b is a map from states to ints that reads as g -/
def MapS (k e : TypeId) (w : World) (b n : Nat) (g : St → Option Int) : Prop := MapF Try.prog k e w b n (liftS g)
section
variable {k e : TypeId} {w w' : World} {b n : Nat} {g : St → Option Int}
theorem MapS.made (w : World) (k e : TypeId) : MapS k e (w.alloc (.map #[] 0)) w.heap.size 0 (fun _ => none) := (MapF.made w Try.prog k e).congr fun x => by unfold liftS; split <;> rfl
theorem MapS.lt (h : MapS k e w b n g) : b < w.heap.size := MapF.lt h
theorem MapS.mono (h : MapS k e w b n g) {m : Nat} (hn : n ≤ m) : MapS k e w b m g := MapF.mono h hn
theorem MapS.grown {row : Option Nat} (h : MapS k e w b n g) (hg : w.grownBy w' row) (hne : some b ≠ row) : MapS k e w' b n g := MapF.grown h hg hne
theorem MapS.below (h : MapS k e w b n g) (hb : Below w.heap.size w w') : MapS k e w' b n g := MapF.below h hb
theorem MapS.alloc (h : MapS k e w b n g) (o : Obj) : MapS k e (w.alloc o) b n g := MapF.alloc h o
theorem MapS.drewN (h : MapS k e w b n g) (m : Nat) : MapS k e (w.drewN m) b n g := h
theorem MapS.setCell (h : MapS k e w b n g) {a : Addr} (ha : b ≠ a.block) (u : Value) : MapS k e (w.setCell a u) b n g := MapF.setCell h ha u
theorem MapS.congr (h : MapS k e w b n g) {f : St → Option Int} (hg : ∀ x, g x = f x) : MapS k e w b n f := MapF.congr h fun x => by unfold liftS; split <;> simp [hg]
instance : Stable (fun w => MapS k e w b n g) := ⟨fun hb h => MapS.below h hb⟩
end
section
variable (w : World) {ops : Array Oper} {rest : List Oper} {o : Oper} {a : Act} {Q : Exit → Act → World → Prop}
theorem wpList_look_S (hg : o.guard = none) (m x : Operand) (t : TypeId) (hop : o.op = Op.lookup t m x false)
    (e : TypeId) (ht : Try.prog.underlying t = some (.map 63 e)) (he : Try.prog.underlying e = some (.int .i64)) (hz : (zeroValue e).run Try.prog w = .ok (.int .i64 0) w) (b n : Nat) (g : St → Option Int)
    (hm : a.eval m = .map (some b)) (hown : MapS 63 e w b n g) (s : St) (hx : a.eval x = sV s) (hok : okS s)
    (hK : wpList Try.prog ops Q rest (a.put o.dst (.int .i64 ((g s).getD 0))) w) : wpList Try.prog ops Q (o :: rest) a w :=
  wpList_look_F w hg m x t hop 63 e law63 ht he hz b n _ hm hown _ (kS s) hx (keyOf_sV hok) (by rw [liftS_kS _ hok]; exact hK)
theorem wpList_look_ok_S (hg : o.guard = none) (m x : Operand) (t : TypeId) (hop : o.op = Op.lookup t m x true)
    (e : TypeId) (ht : Try.prog.underlying t = some (.map 63 e)) (he : Try.prog.underlying e = some (.int .i64)) (hz : (zeroValue e).run Try.prog w = .ok (.int .i64 0) w) (b n : Nat) (g : St → Option Int)
    (hm : a.eval m = .map (some b)) (hown : MapS 63 e w b n g) (s : St) (hx : a.eval x = sV s) (hok : okS s)
    (hK : wpList Try.prog ops Q rest (a.put o.dst (.tuple #[.int .i64 ((g s).getD 0), .bool (g s).isSome])) w) : wpList Try.prog ops Q (o :: rest) a w :=
  wpList_look_ok_F w hg m x t hop 63 e law63 ht he hz b n _ hm hown _ (kS s) hx (keyOf_sV hok) (by rw [liftS_kS _ hok]; exact hK)
theorem wpList_store_S (hg : o.guard = none) (m x v : Operand) (t : TypeId) (hop : o.op = Op.mapUpdate t m x v)
    (e : TypeId) (ht : Try.prog.underlying t = some (.map 63 e)) (he : Try.prog.underlying e = some (.int .i64)) (b n : Nat) (g : St → Option Int)
    (hm : a.eval m = .map (some b)) (hown : MapS 63 e w b n g) (hn : n < maxLen) (s : St) (hx : a.eval x = sV s) (hok : okS s) (c : Int) (hv : a.eval v = .int .i64 c) (hwc : (Lit.int .i64 c).wf = true)
    (hK : ∀ w', MapS 63 e w' b (n + 1) (putS g s c) → w.grownBy w' (some b) → wpList Try.prog ops Q rest (a.put o.dst undef) w') : wpList Try.prog ops Q (o :: rest) a w :=
  wpList_store_F w hg m x v t hop 63 e law63 ht he b n _ hm hown hn _ (kS s) hx c hv (keyOf_sV hok) hwc fun w' h1 h2 => hK w' (MapF.congr h1 (putF_liftS g hok c)) h2
end
end Go.Proofs.Ytaibdlnolpbpiaa
/- A queue of the call's own: a slice whose elements take some cells, that moves off its row's head. Conditions: lengths within Go's bound. -/
namespace Go.Proofs.Ytaibdlnolpbpiaa
open Go.RowKit

/-- the cells from place o on, written over -/
def setAll {α : Type} : List α → Nat → List α → List α
  | cs, _, [] => cs
  | cs, o, v :: r => setAll (cs.set o v) (o + 1) r
theorem setAll_length {α : Type} : ∀ (vs cs : List α) (o : Nat), (setAll cs o vs).length = cs.length
  | [], _, _ => rfl
  | v :: r, cs, o => by rw [setAll, setAll_length r]; simp
theorem setAll_getElem? {α : Type} : ∀ (vs cs : List α) (o j : Nat), o + vs.length ≤ cs.length → (setAll cs o vs)[j]? = if j < o then cs[j]? else if j < o + vs.length then vs[j - o]? else cs[j]?
  | [], cs, o, j, h => by
    simp only [setAll, List.length_nil, Nat.add_zero]
    by_cases h1 : j < o
    · rw [if_pos h1]
    · rw [if_neg h1, if_neg h1]
  | v :: r, cs, o, j, h => by
    simp only [List.length_cons] at h
    rw [setAll, setAll_getElem? r (cs.set o v) (o + 1) j (by simp; omega), List.length_cons]
    by_cases h1 : j < o
    · rw [if_pos (by omega), if_pos h1, List.getElem?_set]; rw [if_neg (by omega)]
    · rw [if_neg h1]
      by_cases h2 : j = o
      · subst h2; rw [if_pos (by omega), if_pos (by omega), List.getElem?_set, if_pos rfl]; simp; omega
      · rw [if_neg (by omega)]
        by_cases h3 : j < o + 1 + r.length
        · rw [if_pos h3, if_pos (by omega), show j - o = (j - (o + 1)) + 1 from by omega, List.getElem?_cons_succ]
        · rw [if_neg h3, if_neg (by omega), List.getElem?_set, if_neg (by omega)]
theorem RowC.setAll {g : Nat} {e : TypeId} : ∀ (vs : List Value) {w : World} {cs : List Value} (o : Nat), RowC w g e cs → RowC (w.setCells g o vs) g e (setAll cs o vs)
  | [], _, _, _, h => h
  | v :: r, _, _, o, h => RowC.setAll r (o + 1) (h.put o v)
theorem Turn.setCells {a : World} {S : Nat → Prop} {g : Nat} (hg : g < a.heap.size → S g) : ∀ (vs : List Value) {b : World} (o : Nat), Turn a b S → Turn a (b.setCells g o vs) S
  | [], _, _, h => h
  | v :: r, _, o, h => Turn.setCells hg r (o + 1) (h.setCell ⟨g, o, none⟩ hg v)
theorem World.setCells_size (g : Nat) : ∀ (vs : List Value) (w : World) (o : Nat), (w.setCells g o vs).heap.size = w.heap.size
  | [], _, _ => rfl
  | v :: r, w, o => by rw [World.setCells, World.setCells_size g r]; simp [World.setCell]

/-- the slice A n c reads as the cells cs (s cells each), in a row of the call's own from block base on -/
structure OwnQ (w : World) (base : Nat) (e : TypeId) (s : Nat) (A : Option Addr) (n c : Nat) (cs : List Value) : Prop where
  len : cs.length = n * s
  ex : (A = none ∧ n = 0 ∧ c = 0) ∨ ∃ g off cur, A = some ⟨g, off, none⟩ ∧ base ≤ g ∧ RowC w g e cur ∧ n ≤ c ∧ c ≤ maxLen ∧ off + c * s ≤ cur.length ∧ (cur.drop off).take (n * s) = cs
section
variable {w w' : World} {base : Nat} {e : TypeId} {s : Nat} {A : Option Addr} {n c : Nat} {cs : List Value}
theorem OwnQ.nil (w : World) (base : Nat) (e : TypeId) (s : Nat) : OwnQ w base e s none 0 0 [] := ⟨by simp, .inl ⟨rfl, rfl, rfl⟩⟩
theorem OwnQ.at_row (h : OwnQ w base e s A n c cs) : A = none ∨ ∃ g off, A = some ⟨g, off, none⟩ ∧ base ≤ g ∧ g < w.heap.size := by
  rcases h.ex with ⟨h1, _⟩ | ⟨g, off, cur, h1, h2, h3, _⟩
  · exact .inl h1
  · exact .inr ⟨g, off, h1, h2, h3.lt⟩
theorem OwnQ.turn {S : Nat → Prop} (h : OwnQ w base e s A n c cs) (ht : Turn w w' S) (hS : ∀ g off, A = some ⟨g, off, none⟩ → ¬ S g) : OwnQ w' base e s A n c cs := by
  refine ⟨h.len, ?_⟩
  rcases h.ex with h1 | ⟨g, off, cur, h1, h2, h3, h4⟩
  · exact .inl h1
  · exact .inr ⟨g, off, cur, h1, h2, h3.turn ht (hS g off h1), h4⟩
theorem OwnQ.below (h : OwnQ w base e s A n c cs) (hb : Below w.heap.size w w') : OwnQ w' base e s A n c cs := h.turn (Turn.of_below hb fun _ => False) fun _ _ _ f => f
theorem OwnQ.alloc (h : OwnQ w base e s A n c cs) (o : Obj) : OwnQ (w.alloc o) base e s A n c cs := h.below ((Below.refl _ _).alloc (Nat.le_refl _) o)
theorem OwnQ.drewN (h : OwnQ w base e s A n c cs) (k : Nat) : OwnQ (w.drewN k) base e s A n c cs := h.below (below_refl_drewN _ _ _)
theorem OwnQ.setFar (h : OwnQ w base e s A n c cs) {p : Addr} (hp : ∀ g off, A = some ⟨g, off, none⟩ → g ≠ p.block) (v : Value) : OwnQ (w.setCell p v) base e s A n c cs :=
  h.turn (S := fun b => b = p.block) (Turn.setCell (S := fun b => b = p.block) (Turn.refl w _) p (fun _ => rfl) v) hp
theorem OwnQ.mono (h : OwnQ w base e s A n c cs) {base' : Nat} (hb : base' ≤ base) : OwnQ w base' e s A n c cs := by
  refine ⟨h.len, ?_⟩
  rcases h.ex with h1 | ⟨g, off, cur, h1, h2, h4⟩
  · exact .inl h1
  · exact .inr ⟨g, off, cur, h1, Nat.le_trans hb h2, h4⟩
instance : Stable (fun w => OwnQ w base e s A n c cs) := ⟨fun hb h => h.below hb⟩
/-- its cells -/
theorem OwnQ.cells (h : OwnQ w base e s A n c cs) (hn : 0 < n * s) : ∃ g off, A = some ⟨g, off, none⟩ ∧ base ≤ g ∧ g < w.heap.size ∧ n ≤ c ∧ (∀ j, j < n * s → w.cell? ⟨g, off + j, none⟩ = cs[j]?) ∧ ∀ j, w.frozen? ⟨g, j, none⟩ = false := by
  rcases h.ex with ⟨_, h1, _⟩ | ⟨g, off, cur, h1, h2, h3, h4, h5, h6, h7⟩
  · subst h1; simp at hn
  · refine ⟨g, off, h1, h2, h3.lt, h4, fun j hj => ?_, fun j => h3.frozen j⟩
    rw [h3.cell, ← h7, List.getElem?_take, if_pos hj, List.getElem?_drop]
theorem OwnQ.len_le (h : OwnQ w base e s A n c cs) : n ≤ c := by
  rcases h.ex with ⟨_, h1, h2⟩ | ⟨_, _, _, _, _, _, h4, _⟩ <;> omega
theorem OwnQ.cap_le (h : OwnQ w base e s A n c cs) : c ≤ maxLen := by
  rcases h.ex with ⟨_, h1, h2⟩ | ⟨_, _, _, _, _, _, _, h4, _⟩
  · subst h2; exact Nat.zero_le _
  · exact h4
/-- the first element left out -/
theorem OwnQ.pop (h : OwnQ w base e s A n c cs) (hn : 1 ≤ n) : OwnQ w base e s (if c = 1 then A else A.map (·.add s)) (n - 1) (c - 1) (cs.drop s) := by
  have hs : n * s = (n - 1) * s + s := by rw [Nat.sub_mul, Nat.one_mul]; have : 1 * s ≤ n * s := Nat.mul_le_mul_right _ hn; omega
  refine ⟨by rw [List.length_drop, h.len]; omega, ?_⟩
  rcases h.ex with ⟨_, h1, _⟩ | ⟨g, off, cur, h1, h2, h3, h4, h5, h6, h7⟩
  · omega
  · right
    by_cases hc : c = 1
    · rw [if_pos hc]
      refine ⟨g, off, cur, h1, h2, h3, by omega, by omega, by subst hc; simp at h6 ⊢; omega, ?_⟩
      have : n = 1 := by omega
      subst this
      have e0 : cs.drop s = [] := List.drop_of_length_le (by rw [h.len]; omega)
      rw [e0]; simp
    · rw [if_neg hc, h1]
      have hcs : c * s = (c - 1) * s + s := by rw [Nat.sub_mul, Nat.one_mul]; have : 1 * s ≤ c * s := Nat.mul_le_mul_right _ (by omega); omega
      refine ⟨g, off + s, cur, by simp [Addr.add_lit], h2, h3, by omega, by omega, by omega, ?_⟩
      rw [← h7, List.drop_take, List.drop_drop]
      congr 1
      omega
theorem OwnQ.of_owns {v : Value} (h : w.ownsRow base e s v n cs) : ∃ A c, v = .slice A n c ∧ OwnQ w base e s A n c cs ∧ (∀ g off, A = some ⟨g, off, none⟩ → base ≤ g) := by
  obtain ⟨h1, h2⟩ := h
  rcases h2 with ⟨rfl, rfl⟩ | ⟨g, cap, cur, rfl, h3, h4, h5, h6, h7, h8⟩
  · exact ⟨none, 0, rfl, ⟨h1, .inl ⟨rfl, rfl, rfl⟩⟩, fun _ _ e => by cases e⟩
  · exact ⟨_, cap, rfl, ⟨h1, .inr ⟨g, 0, cur.toList, rfl, h3, by unfold RowC; rw [h4], h5, h6, by rw [Array.length_toList, h7]; omega, by rw [List.drop_zero]; exact h8⟩⟩, fun _ _ e => by injection e with e; injection e with e; omega⟩
end
/-- append onto a queue -/
theorem wpList_app_q {P : Program} (w : World) {ops : Array Oper} {rest : List Oper} {o : Oper} {a : Act} {Q : Exit → Act → World → Prop}
    (hg : o.guard = none) (sl x : Operand) (t : TypeId) (hop : o.op = Op.call { callee := Callee.builtin Builtin.append, args := #[sl, x], argTypes := #[t, t] })
    (e : TypeId) (i : TypeInfo) (z : Value) (s bytes : Nat) (h1 : P.underlying t = some (.slice e)) (h2 : P.info? e = some i) (h3 : i.zero = some z) (h4 : i.size = s) (h5 : i.bytes = bytes) (h6 : z.cells.size = s) (h7 : 0 < s)
    (base : Nat) (A : Option Addr) (n c : Nat) (cs : List Value) (hs : a.eval sl = .slice A n c) (hown : OwnQ w base e s A n c cs) (hbase : base ≤ w.heap.size)
    (ad : Addr) (m d : Nat) (news : List Value) (hx : a.eval x = .slice (some ad) m d) (hn : news.length = m * s) (hc : ∀ j u, news[j]? = some u → w.cell? (ad.add j) = some u) (h1c : ∀ u ∈ news, u.oneCell' = true)
    (hbytes : (n + m) * bytes ≤ 140737488355328) (hb1 : 1 ≤ bytes)
    (hK : ∀ A' c' w', OwnQ w' base e s A' (n + m) c' (cs ++ news) → Turn w w' (fun b => ∃ off, A = some ⟨b, off, none⟩) → (∀ g off, A' = some ⟨g, off, none⟩ → (∃ off', A = some ⟨g, off', none⟩) ∨ w.heap.size ≤ g) →
      wpList P ops Q rest (a.put o.dst (.slice A' (n + m) c')) w') : wpList P ops Q (o :: rest) a w := by
  have hmax : n + m ≤ maxLen := by
    have : (n + m) * 1 ≤ (n + m) * bytes := Nat.mul_le_mul_left _ hb1
    unfold maxLen; omega
  have grow : ∀ v' w', w'.ownsRow w.heap.size e s v' (n + m) (cs ++ news) → w.grownBy w' none → wpList P ops Q rest (a.put o.dst v') w' := fun v' w' ho hgr => by
    obtain ⟨A', c', rfl, hq, hfr⟩ := OwnQ.of_owns ho
    exact hK A' c' w' (hq.mono hbase) ((Turn.of_grown hgr).mono fun _ _ e => by cases e) fun g off e => .inr (hfr g off e)
  rcases hown.ex with ⟨rfl, rfl, rfl⟩ | ⟨g, off, cur, rfl, hb, hr, hle, hcm, hoff, htk⟩
  · have hcs0 : cs = [] := List.eq_nil_of_length_eq_zero (by simpa using hown.len)
    subst hcs0
    rcases Nat.eq_zero_or_pos m with rfl | hm
    · have hn0 : news = [] := List.eq_nil_of_length_eq_zero (by simpa using hn)
      subst hn0
      refine wpList_plain hg fun K' hK' => ?_
      obtain ⟨v', w', hrun, r1, r2, _⟩ := run_append_own (P := P) w w.heap.size t o.type e i z s bytes h1 h2 h3 h4 h5 h6 h7 (.slice none 0 0) 0 [] (World.ownsRow_nil w _ e s) ad 0 d [] (by simp) (fun j u hj => by simp at hj) (fun u hu => by simp at hu) (by omega) (by omega) (Nat.le_refl _)
      unfold Oper.wp
      simp [execOp, hop, resolve, invoke, builtin, hs, hx, hrun, Result.andThen]
      exact hK' _ _ (grow v' w' r1 r2)
    · exact wpList_append_grows w hg sl x t hop e i z s bytes h1 h2 h3 h4 h5 h6 h7 none 0 0 [] hs (fun _ => ⟨rfl, rfl⟩) (by simp) (fun b e => by cases e) ad m d news hx hn hc h1c (by omega) hmax hbytes grow
  · have hcells : ∀ j u, cs[j]? = some u → w.cell? ⟨g, off + j, none⟩ = some u := fun j u hj => by
      rw [hr.cell, ← hj, ← htk, List.getElem?_take]
      have hlt : j < n * s := by
        have := (List.getElem?_eq_some_iff.1 hj).1
        rw [hown.len] at this; exact this
      rw [if_pos hlt, List.getElem?_drop]
    refine wpList_append_arg w hg sl x t hop e i z s bytes h1 h2 h3 h4 h5 h6 h7 g off n c cs hs hown.len hcells ad m d news hx hn hc h1c (fun hroom j hj => ⟨?_, hr.frozen _⟩) hmax hbytes (fun hroom => ?_) fun _ => grow
    · have h9 : (n + m) * s ≤ c * s := Nat.mul_le_mul_right _ hroom
      rw [Nat.add_mul] at h9
      rw [hr.cell, List.getElem?_eq_getElem (by omega)]
      rfl
    · have h9 : (n + m) * s ≤ c * s := Nat.mul_le_mul_right _ hroom
      rw [Nat.add_mul] at h9
      refine hK _ _ _ ⟨by rw [List.length_append, hown.len, hn, Nat.add_mul], .inr ⟨g, off, _, rfl, hb, RowC.setAll news (off + n * s) hr, hroom, hcm, by rw [setAll_length]; exact hoff, ?_⟩⟩ (Turn.setCells (S := fun b => ∃ o, (some ⟨g, off, none⟩ : Option Addr) = some ⟨b, o, none⟩) (fun _ => ⟨off, rfl⟩) news (off + n * s) (Turn.refl w _)) fun g' off' e => .inl ⟨off', by rw [← e]⟩
      apply List.ext_getElem?
      intro j
      rw [List.getElem?_take, List.getElem?_append, hown.len]
      by_cases hj : j < (n + m) * s
      · rw [if_pos hj, List.getElem?_drop, setAll_getElem? _ _ _ _ (by omega)]
        rw [Nat.add_mul] at hj
        by_cases h8 : j < n * s
        · rw [if_pos (by omega), if_pos h8, ← htk, List.getElem?_take, if_pos h8, List.getElem?_drop]
        · rw [if_neg (by omega), if_neg h8, if_pos (by omega)]
          congr 1
          omega
      · rw [if_neg hj]
        rw [Nat.add_mul] at hj
        rw [if_neg (by omega)]
        exact (List.getElem?_eq_none (by omega)).symm
end Go.Proofs.Ytaibdlnolpbpiaa
/- sep's view.next, walked over a contract of the function that it calls. Conditions: the view and the state within Go's bound. -/
namespace Go.Proofs.Ytaibdlnolpbpiaa
open Go.RowKit

theorem Turn.keeps {a b : World} {S : Nat → Prop} (h : Turn a b S) {x : Nat} (hx : x < a.heap.size) (hS : ¬ S x) : b.heap[x]? = a.heap[x]? := h.block x hx hS
/-- is a point given? above what is given? -/
def zB (Z : List Int) (p : Nat) : Bool := decide ((p : Int) ∈ Z)
noncomputable def aB (G : List (List Nat)) (Z : List Int) (p : Nat) : Bool := decide ((p : Int) ∈ castL (upList G (Z.map Int.toNat)))
/-- the states to which an open trail goes on, in their order -/
noncomputable def nextL (G : List (List Nat)) (Z : List Int) (s : St) : List St :=
  if (s.2 && zB Z s.1) = true then [] else (if (s.2 || aB G Z s.1) = true then (nth G s.1).map (fun p => (p, true)) else []) ++ (if zB Z s.1 = true then [] else (nth (kids G) s.1).map (fun p => (p, false)))
theorem View.below {w w' : World} {G : List (List Nat)} {Z : List Int} {A B C D : Option Addr} {n k1 k2 : Nat} (h : View w G Z A B C D n k1 k2) {b : Nat} (hB : w.heap.size ≤ b) (hb : Below b w w') : View w' G Z A B C D n k1 k2 :=
  ⟨h.par.below hB hb, h.kid.below hB hb, h.giv.below hB hb, h.abv.below hB hb⟩

/-- what a function does that is called with states, as long as they are Ok: J K L: what holds when it was called with L; the blocks K are not its own -/
structure Clo (B n : Nat) (fid : Nat) (caps : Array Value) (Ok : List St → Prop) (J : (Nat → Prop) → List St → World → Prop) : Prop where
  step : ∀ K L s w, s.1 < n → Ok (L ++ [s]) → J K L w → Calls Try.prog fid (#[sV s] ++ caps) w fun e w' => e = .returned (.tuple #[]) ∧ J K (L ++ [s]) w' ∧ Below B w w' ∧ ∀ b, K b → w'.heap[b]? = w.heap[b]?
  ent : Enters Try.prog fid
  grow : ∀ K L w w', J K L w → Below w.heap.size w w' → J (fun b => K b ∨ (w.heap.size ≤ b ∧ b < w'.heap.size)) L w'
  weak : ∀ K K' L w, J K L w → (∀ b, K' b → K b) → J K' L w
  bnd : ∀ K L w b, J K L w → K b → b < w.heap.size

/-- next on its way -/
structure NxI (w : World) (B : Nat) (K : Nat → Prop) (J : (Nat → Prop) → List St → World → Prop) (p : Nat) (vc : List Value) (s : St) (Ls : List St) (wr : World) : Prop where
  j : J (fun b => K b ∨ (p ≤ b ∧ b < p + 2)) Ls wr
  r1 : RowC wr p 57 vc
  r2 : RowC wr (p + 1) 63 [.int .i64 (s.1 : Int), .bool s.2]
  bel : Below B w wr
  kept : ∀ b, K b → wr.heap[b]? = w.heap[b]?
  bw : B ≤ w.heap.size
section
variable {w wr w' : World} {B n fid p : Nat} {K : Nat → Prop} {J : (Nat → Prop) → List St → World → Prop} {caps : Array Value} {Ok : List St → Prop} {vc : List Value} {s t : St} {Ls : List St}
theorem NxI.grow (C : Clo B n fid caps Ok J) (h : NxI w B K J p vc s Ls wr) (hb : Below wr.heap.size wr w') : NxI w B K J p vc s Ls w' := by
  have hpr := h.r1.lt
  refine ⟨C.weak _ _ _ _ (C.grow _ _ _ _ h.j hb) fun b hb => .inl hb, h.r1.below' hb, h.r2.below' hb, h.bel.trans (hb.mono (by have := h.bel.size; have := h.bw; omega)), fun b hk => ?_, h.bw⟩
  · rw [← h.kept b hk]
    exact hb.block b (C.bnd _ _ _ _ h.j (.inl hk))
theorem NxI.step (h : NxI w B K J p vc s Ls wr) (hj : J (fun b => K b ∨ (p ≤ b ∧ b < p + 2)) (Ls ++ [t]) w') (hb : Below B wr w') (hk : ∀ b, (K b ∨ (p ≤ b ∧ b < p + 2)) → w'.heap[b]? = wr.heap[b]?) : NxI w B K J p vc s (Ls ++ [t]) w' :=
  ⟨hj, by have := h.r1; unfold RowC at this ⊢; rw [hk p (.inr ⟨Nat.le_refl _, by omega⟩)]; exact this, by have := h.r2; unfold RowC at this ⊢; rw [hk (p + 1) (.inr ⟨by omega, by omega⟩)]; exact this, h.bel.trans hb, fun b hK => (hk b (.inl hK)).trans (h.kept b hK), h.bw⟩
theorem NxI.start (C : Clo B n fid caps Ok J) {c1 c2 c3 c4 k1 k2 : Nat} {A B1 D E : Option Addr} {p : Nat} {u : Bool} {L : List St} (hBw : B ≤ w.heap.size) (hJ : J K L w) :
    NxI w B K J w.heap.size [.slice A n c1, .slice B1 n c2, .slice D k1 c3, .slice E k2 c4] (p, u) L ((w.alloc (.cells #[.slice A n c1, .slice B1 n c2, .slice D k1 c3, .slice E k2 c4] 57)).alloc (.cells #[.int .i64 (p : Int), .bool u] 63)) := by
  have hb : Below w.heap.size w ((w.alloc (.cells #[.slice A n c1, .slice B1 n c2, .slice D k1 c3, .slice E k2 c4] 57)).alloc (.cells #[.int .i64 (p : Int), .bool u] 63)) :=
    ((Below.refl _ _).alloc (Nat.le_refl _) _).alloc (by simp) _
  refine ⟨C.weak _ _ _ _ (C.grow _ _ _ _ hJ hb) fun b h => ?_, (RowC.new w 57 _).alloc _, ?_, hb.mono hBw, fun b hk => hb.block b (C.bnd _ _ _ _ hJ hk), hBw⟩
  · rcases h with h | h
    · exact .inl h
    · refine .inr ⟨h.1, ?_⟩
      simp
      omega
  · have := RowC.new (w.alloc (.cells #[.slice A n c1, .slice B1 n c2, .slice D k1 c3, .slice E k2 c4] 57)) 63 [.int .i64 (p : Int), .bool u]
    rw [show (w.alloc (.cells #[.slice A n c1, .slice B1 n c2, .slice D k1 c3, .slice E k2 c4] 57)).heap.size = w.heap.size + 1 from by simp] at this
    exact this
end
theorem map_take_snoc {α β : Type} [Inhabited α] {l : List α} {n : Nat} (hl : l.length = n) (pre : List β) (k : Nat) (h : k < n) (f : α → β) : pre ++ (l.take k).map f ++ [f (nth l k)] = pre ++ (l.take (k + 1)).map f := by
  rw [nth_eq (by omega), List.take_succ_eq_append_getElem (by omega), List.map_append, List.append_assoc]; rfl
theorem take_pre {α β : Type} {l : List α} (pre : List β) (k : Nat) (f : α → β) {T : List β} (h : pre ++ l.map f <+: T) : pre ++ (l.take k).map f <+: T := by
  refine List.IsPrefix.trans ?_ h
  obtain ⟨r, hr⟩ := List.take_prefix k l
  exact ⟨r.map f, by rw [List.append_assoc, ← List.map_append, hr]⟩
def NextPost (w : World) (B : Nat) (K : Nat → Prop) (J : (Nat → Prop) → List St → World → Prop) (Ls : List St) (e : Ending) (w' : World) : Prop :=
  e = .returned (.tuple #[]) ∧ J K Ls w' ∧ Below B w w' ∧ ∀ b, K b → w'.heap[b]? = w.heap[b]?

set_option maxRecDepth 100000 in
set_option maxHeartbeats 4000000 in
theorem next_any {B n fid : Nat} {caps : Array Value} {Ok : List St → Prop} {J : (Nat → Prop) → List St → World → Prop} (C : Clo B n fid caps Ok J) (G : List (List Nat)) (Z : List Int) (A B1 D E : Option Addr) (k1 k2 c1' c2' c3' c4' : Nat)
    (s : St) (hs : s.1 < n) (hin1' : ∀ q, q ∈ nth G s.1 → q < n) (hin2' : ∀ q, q ∈ nth (kids G) s.1 → q < n) (K : Nat → Prop) (L : List St) (w w0 : World) (hv : View w0 G Z A B1 D E n k1 k2) (hB : w0.heap.size ≤ B) (hBw : B ≤ w.heap.size) (h0 : Below B w0 w) (hJ : J K L w) (hOk' : ∀ l, l <+: L ++ nextL G Z s → Ok l) :
    Calls Try.prog 45 #[.agg #[.slice A n c1', .slice B1 n c2', .slice D k1 c3', .slice E k2 c4'], sV s, .func (.func fid) #[] caps] w (NextPost w B K J (L ++ nextL G Z s)) := by
  obtain ⟨wa, hwa⟩ : ∃ wa : World, wa = w := ⟨_, rfl⟩
  subst hwa
  obtain ⟨p, u⟩ := s
  have hent : ∀ (args : Array Value) (w : World), (callFunc fid args).run Try.prog w = .ok (.enter fid args) w := C.ent
  obtain ⟨b1, o1, R1, m1, d1, rfl, hlt1, hrow1, hsl1⟩ := hv.par.row (i := p) hs
  obtain ⟨b2, o2, R2, m2, d2, rfl, hlt2, hrow2, hsl2⟩ := hv.kid.row (i := p) hs
  have hOk := Lib.hid hOk'
  clear hOk'
  have hin1 : ∀ q, q ∈ nth G p → q < n := hin1'
  have hin2 : ∀ q, q ∈ nth (kids G) p → q < n := hin2'
  clear hin1' hin2'
  have hbig1 := hsl1.big
  have hbig2 := hsl2.big
  have HT1 := fun (pre : List St) k h f => map_take_snoc hsl1.len pre k h f
  have HT2 := fun (pre : List St) k h f => map_take_snoc hsl2.len pre k h f
  have HS1 := Lib.hid hsl1
  have HS2 := Lib.hid hsl2
  clear hsl1 hsl2
  have q1 : (0 : Int) ≤ (p : Nat) := by omega
  have q2 : ((p : Nat) : Int) < (n : Nat) := by have : p < n := hs; omega
  cases u with
  | true =>
    by_cases hz : zB Z p = true
    · have hL : nextL G Z (p, true) = [] := by simp [nextL, hz]
      have Hz := Lib.hid (show decide ((p : Int) ∈ Z) = true from hz)
      have H1 := NxI.start C (c1 := c1') (c2 := c2') (c3 := c3') (c4 := c4') (A := some ⟨b1, o1, none⟩) (B1 := some ⟨b2, o2, none⟩) (D := D) (E := E) (n := n) (k1 := k1) (k2 := k2) (p := p) (u := true) hBw hJ
      have c0 := H1.r1.cell 0
      have c1 := H1.r1.cell 1
      have c2 := H1.r1.cell 2
      have c3 := H1.r1.cell 3
      have s0 := H1.r2.cell 0
      have s1 := H1.r2.cell 1
      go_enter Try.func45, Try.ntmps45
      have hvx := hv.below hB (h0.trans H1.bel)
      go_wp2_with fail
      refine (has_I D k1 c3' _ _ _ hvx.giv).mono ?_
      rintro e w2 ⟨rfl, hb⟩
      have H2 := H1.grow C hb
      rw [Hz.out]
      clear hvx hb
      clear H1 c0 c1 c2 c3 s0 s1
      have c0 := H2.r1.cell 0
      have c1 := H2.r1.cell 1
      have c2 := H2.r1.cell 2
      have c3 := H2.r1.cell 3
      have s0 := H2.r2.cell 0
      have s1 := H2.r2.cell 1
      clear c0 c1 c2 c3 s0 s1
      have HE := Lib.hid H2; clear H2
      go_wp2_with fail
      go_end0
      exact ⟨rfl, by rw [hL, List.append_nil]; exact C.weak _ _ _ _ HE.out.j (fun b hb => .inl hb), HE.out.bel, HE.out.kept⟩
    · have hL : nextL G Z (p, true) = (nth G p).map (fun y => (y, true)) ++ (nth (kids G) p).map (fun y => (y, false)) := by simp [nextL, hz]
      have Hz := Lib.hid (show decide ((p : Int) ∈ Z) = false from by simpa [zB] using hz)
      have H1 := NxI.start C (c1 := c1') (c2 := c2') (c3 := c3') (c4 := c4') (A := some ⟨b1, o1, none⟩) (B1 := some ⟨b2, o2, none⟩) (D := D) (E := E) (n := n) (k1 := k1) (k2 := k2) (p := p) (u := true) hBw hJ
      have c0 := H1.r1.cell 0
      have c1 := H1.r1.cell 1
      have c2 := H1.r1.cell 2
      have c3 := H1.r1.cell 3
      have s0 := H1.r2.cell 0
      have s1 := H1.r2.cell 1
      go_enter Try.func45, Try.ntmps45
      have hvx := hv.below hB (h0.trans H1.bel)
      go_wp2_with fail
      refine (has_I D k1 c3' _ _ _ hvx.giv).mono ?_
      rintro e w2 ⟨rfl, hb⟩
      have H2 := H1.grow C hb
      rw [Hz.out]
      clear hvx hb
      clear H1 c0 c1 c2 c3 s0 s1
      have c0 := H2.r1.cell 0
      have c1 := H2.r1.cell 1
      have c2 := H2.r1.cell 2
      have c3 := H2.r1.cell 3
      have s0 := H2.r2.cell 0
      have s1 := H2.r2.cell 1
      have a0 := ((keeps (h0.trans H2.bel)).1 b1 (o1 + p) (Nat.lt_of_lt_of_le hlt1 hB)).trans hrow1
      have HN := Lib.hid H2
      clear H2
      go_wp2_with fail
      clear a0 c0 c1 c2 c3 s0 s1
      go_loopw [35] (fun i wr => ∃ k : Nat, i = .int .i64 (k : Nat) ∧ k ≤ m1 ∧ NxI wa B K J wa.heap.size [.slice (some ⟨b1, o1, none⟩) n c1', .slice (some ⟨b2, o2, none⟩) n c2', .slice D k1 c3', .slice E k2 c4'] (p, true) (L ++ (((nth G p).take k).map fun y => (y, true))) wr) (fun i _ => m1 - (intOf i).toNat)
      case atStart => exact ⟨0, rfl, Nat.zero_le _, by rw [List.take_zero, List.map_nil, List.append_nil]; exact HN.out⟩
      case round =>
        obtain ⟨k, rfl, hk, hI⟩ := hrel
        obtain ⟨wb, hwb⟩ : ∃ wb : World, wb = wr := ⟨_, rfl⟩
        subst hwb
        by_cases hkm : k < m1
        · have hslb := HS1.out.below hB (h0.trans hI.bel)
          obtain ⟨b3, o3, rfl, _, hc⟩ := hslb.at' (by omega)
          have g0 := hc k hkm
          have hy : nth (nth G p) k < n := hin1 _ (nth_mem (by rw [HS1.out.len]; exact hkm))
          have hsn := HT1 (L) k hkm (fun y => ((y, true) : St))
          have hok : Ok (L ++ ((nth G p).take k).map (fun y => ((y, true) : St)) ++ [(nth (nth G p) k, true)]) := hOk.out _ (by rw [hsn]; refine take_pre _ _ _ ?_; rw [hL]; first | exact ⟨_, List.append_assoc _ _ _⟩ | exact ⟨[], List.append_nil _⟩ | exact ⟨[], (List.append_nil _).trans (List.append_assoc _ _ _)⟩)
          generalize nth (nth G p) k = y at *
          have HX := Lib.hid (And.intro hI (And.intro hsn hy))
          have hj := hI.j
          have HK := Lib.hid hok
          clear hI hc hslb hsn hok
          go_wp2_with fail
          refine (C.step _ _ (y, true) _ hy HK.out hj).mono ?_
          rintro e w3 ⟨rfl, hj3, hb3, hk3⟩
          have H3 := HX.out.1.step hj3 hb3 hk3
          rw [HX.out.2.1] at H3
          have HF := Lib.hid H3
          clear H3 hj hj3 hb3 hk3
          go_wp2_with fail
          exact ⟨⟨k + 1, by go_num, by omega, HF.out⟩, by simp [intOf]; omega⟩
        · obtain rfl : k = m1 := by omega
          rw [take_all (by rw [HS1.out.len]; exact Nat.le_refl _)] at hI
          have H3 := hI
          have c0 := H3.r1.cell 0
          have c1 := H3.r1.cell 1
          have c2 := H3.r1.cell 2
          have c3 := H3.r1.cell 3
          have s0 := H3.r2.cell 0
          have s1 := H3.r2.cell 1
          have hvx := hv.below hB (h0.trans H3.bel)
          go_wp2_with fail
          refine (has_I D k1 c3' _ _ _ hvx.giv).mono ?_
          rintro e w2 ⟨rfl, hb⟩
          have H4 := H3.grow C hb
          rw [Hz.out]
          clear hvx hb
          clear H3 c0 c1 c2 c3 s0 s1
          have c0 := H4.r1.cell 0
          have c1 := H4.r1.cell 1
          have c2 := H4.r1.cell 2
          have c3 := H4.r1.cell 3
          have s0 := H4.r2.cell 0
          have s1 := H4.r2.cell 1
          have a0 := ((keeps (h0.trans H4.bel)).1 b2 (o2 + p) (Nat.lt_of_lt_of_le hlt2 hB)).trans hrow2
          have HN := Lib.hid H4
          clear H4
          go_wp2_with fail
          clear a0 c0 c1 c2 c3 s0 s1
          go_loopw [57] (fun i wr => ∃ k : Nat, i = .int .i64 (k : Nat) ∧ k ≤ m2 ∧ NxI wa B K J wa.heap.size [.slice (some ⟨b1, o1, none⟩) n c1', .slice (some ⟨b2, o2, none⟩) n c2', .slice D k1 c3', .slice E k2 c4'] (p, true) ((L ++ (nth G p).map fun y => ((y, true) : St)) ++ (((nth (kids G) p).take k).map fun y => (y, false))) wr) (fun i _ => m2 - (intOf i).toNat)
          case atStart => exact ⟨0, rfl, Nat.zero_le _, by rw [List.take_zero, List.map_nil, List.append_nil]; exact HN.out⟩
          case round =>
            obtain ⟨k, rfl, hk, hI⟩ := hrel
            obtain ⟨wb, hwb⟩ : ∃ wb : World, wb = wr := ⟨_, rfl⟩
            subst hwb
            by_cases hkm : k < m2
            · have hslb := HS2.out.below hB (h0.trans hI.bel)
              obtain ⟨b3, o3, rfl, _, hc⟩ := hslb.at' (by omega)
              have g0 := hc k hkm
              have hy : nth (nth (kids G) p) k < n := hin2 _ (nth_mem (by rw [HS2.out.len]; exact hkm))
              have hsn := HT2 ((L ++ (nth G p).map fun y => ((y, true) : St))) k hkm (fun y => ((y, false) : St))
              have hok : Ok ((L ++ (nth G p).map fun y => ((y, true) : St)) ++ ((nth (kids G) p).take k).map (fun y => ((y, false) : St)) ++ [(nth (nth (kids G) p) k, false)]) := hOk.out _ (by rw [hsn]; refine take_pre _ _ _ ?_; rw [hL]; first | exact ⟨_, List.append_assoc _ _ _⟩ | exact ⟨[], List.append_nil _⟩ | exact ⟨[], (List.append_nil _).trans (List.append_assoc _ _ _)⟩)
              generalize nth (nth (kids G) p) k = y at *
              have HX := Lib.hid (And.intro hI (And.intro hsn hy))
              have hj := hI.j
              have HK := Lib.hid hok
              clear hI hc hslb hsn hok
              go_wp2_with fail
              refine (C.step _ _ (y, false) _ hy HK.out hj).mono ?_
              rintro e w3 ⟨rfl, hj3, hb3, hk3⟩
              have H3 := HX.out.1.step hj3 hb3 hk3
              rw [HX.out.2.1] at H3
              have HF := Lib.hid H3
              clear H3 hj hj3 hb3 hk3
              go_wp2_with fail
              exact ⟨⟨k + 1, by go_num, by omega, HF.out⟩, by simp [intOf]; omega⟩
            · obtain rfl : k = m2 := by omega
              rw [take_all (by rw [HS2.out.len]; exact Nat.le_refl _)] at hI
              have H5 := hI
              have c0 := H5.r1.cell 0
              have c1 := H5.r1.cell 1
              have c2 := H5.r1.cell 2
              have c3 := H5.r1.cell 3
              have s0 := H5.r2.cell 0
              have s1 := H5.r2.cell 1
              clear c0 c1 c2 c3 s0 s1
              have HE := Lib.hid H5; clear H5
              go_wp2_with fail
              go_end0
              refine ⟨rfl, ?_, HE.out.bel, HE.out.kept⟩
              rw [hL]
              first
                | exact C.weak _ _ _ _ HE.out.j (fun b hb => .inl hb)
                | (rw [← List.append_assoc]; exact C.weak _ _ _ _ HE.out.j (fun b hb => .inl hb))
  | false =>
    cases hab : aB G Z p with
    | true =>
      by_cases hz : zB Z p = true
      · have hL : nextL G Z (p, false) = (nth G p).map (fun y => (y, true)) := by simp [nextL, hz, hab]
        have Hz := Lib.hid (show decide ((p : Int) ∈ Z) = true from hz)
        have Ha := Lib.hid (show decide ((p : Int) ∈ castL (upList G (Z.map Int.toNat))) = true from hab)
        have H1 := NxI.start C (c1 := c1') (c2 := c2') (c3 := c3') (c4 := c4') (A := some ⟨b1, o1, none⟩) (B1 := some ⟨b2, o2, none⟩) (D := D) (E := E) (n := n) (k1 := k1) (k2 := k2) (p := p) (u := false) hBw hJ
        have c0 := H1.r1.cell 0
        have c1 := H1.r1.cell 1
        have c2 := H1.r1.cell 2
        have c3 := H1.r1.cell 3
        have s0 := H1.r2.cell 0
        have s1 := H1.r2.cell 1
        go_enter Try.func45, Try.ntmps45
        have hvx := hv.below hB (h0.trans H1.bel)
        go_wp2_with fail
        refine (has_I E k2 c4' _ _ _ hvx.abv).mono ?_
        rintro e w2 ⟨rfl, hb⟩
        have H2 := H1.grow C hb
        rw [Ha.out]
        clear hvx hb
        clear H1 c0 c1 c2 c3 s0 s1
        have c0 := H2.r1.cell 0
        have c1 := H2.r1.cell 1
        have c2 := H2.r1.cell 2
        have c3 := H2.r1.cell 3
        have s0 := H2.r2.cell 0
        have s1 := H2.r2.cell 1
        have a0 := ((keeps (h0.trans H2.bel)).1 b1 (o1 + p) (Nat.lt_of_lt_of_le hlt1 hB)).trans hrow1
        have HN := Lib.hid H2
        clear H2
        go_wp2_with fail
        clear a0 c0 c1 c2 c3 s0 s1
        go_loopw [35] (fun i wr => ∃ k : Nat, i = .int .i64 (k : Nat) ∧ k ≤ m1 ∧ NxI wa B K J wa.heap.size [.slice (some ⟨b1, o1, none⟩) n c1', .slice (some ⟨b2, o2, none⟩) n c2', .slice D k1 c3', .slice E k2 c4'] (p, false) (L ++ (((nth G p).take k).map fun y => (y, true))) wr) (fun i _ => m1 - (intOf i).toNat)
        case atStart => exact ⟨0, rfl, Nat.zero_le _, by rw [List.take_zero, List.map_nil, List.append_nil]; exact HN.out⟩
        case round =>
          obtain ⟨k, rfl, hk, hI⟩ := hrel
          obtain ⟨wb, hwb⟩ : ∃ wb : World, wb = wr := ⟨_, rfl⟩
          subst hwb
          by_cases hkm : k < m1
          · have hslb := HS1.out.below hB (h0.trans hI.bel)
            obtain ⟨b3, o3, rfl, _, hc⟩ := hslb.at' (by omega)
            have g0 := hc k hkm
            have hy : nth (nth G p) k < n := hin1 _ (nth_mem (by rw [HS1.out.len]; exact hkm))
            have hsn := HT1 (L) k hkm (fun y => ((y, true) : St))
            have hok : Ok (L ++ ((nth G p).take k).map (fun y => ((y, true) : St)) ++ [(nth (nth G p) k, true)]) := hOk.out _ (by rw [hsn]; refine take_pre _ _ _ ?_; rw [hL]; first | exact ⟨_, List.append_assoc _ _ _⟩ | exact ⟨[], List.append_nil _⟩ | exact ⟨[], (List.append_nil _).trans (List.append_assoc _ _ _)⟩)
            generalize nth (nth G p) k = y at *
            have HX := Lib.hid (And.intro hI (And.intro hsn hy))
            have hj := hI.j
            have HK := Lib.hid hok
            clear hI hc hslb hsn hok
            go_wp2_with fail
            refine (C.step _ _ (y, true) _ hy HK.out hj).mono ?_
            rintro e w3 ⟨rfl, hj3, hb3, hk3⟩
            have H3 := HX.out.1.step hj3 hb3 hk3
            rw [HX.out.2.1] at H3
            have HF := Lib.hid H3
            clear H3 hj hj3 hb3 hk3
            go_wp2_with fail
            exact ⟨⟨k + 1, by go_num, by omega, HF.out⟩, by simp [intOf]; omega⟩
          · obtain rfl : k = m1 := by omega
            rw [take_all (by rw [HS1.out.len]; exact Nat.le_refl _)] at hI
            have H3 := hI
            have c0 := H3.r1.cell 0
            have c1 := H3.r1.cell 1
            have c2 := H3.r1.cell 2
            have c3 := H3.r1.cell 3
            have s0 := H3.r2.cell 0
            have s1 := H3.r2.cell 1
            have hvx := hv.below hB (h0.trans H3.bel)
            go_wp2_with fail
            refine (has_I D k1 c3' _ _ _ hvx.giv).mono ?_
            rintro e w2 ⟨rfl, hb⟩
            have H4 := H3.grow C hb
            rw [Hz.out]
            clear hvx hb
            clear H3 c0 c1 c2 c3 s0 s1
            have c0 := H4.r1.cell 0
            have c1 := H4.r1.cell 1
            have c2 := H4.r1.cell 2
            have c3 := H4.r1.cell 3
            have s0 := H4.r2.cell 0
            have s1 := H4.r2.cell 1
            clear c0 c1 c2 c3 s0 s1
            have HE := Lib.hid H4; clear H4
            go_wp2_with fail
            go_end0
            refine ⟨rfl, ?_, HE.out.bel, HE.out.kept⟩
            rw [hL]
            first
              | exact C.weak _ _ _ _ HE.out.j (fun b hb => .inl hb)
              | (rw [← List.append_assoc]; exact C.weak _ _ _ _ HE.out.j (fun b hb => .inl hb))
      · have hL : nextL G Z (p, false) = (nth G p).map (fun y => (y, true)) ++ (nth (kids G) p).map (fun y => (y, false)) := by simp [nextL, hz, hab]
        have Hz := Lib.hid (show decide ((p : Int) ∈ Z) = false from by simpa [zB] using hz)
        have Ha := Lib.hid (show decide ((p : Int) ∈ castL (upList G (Z.map Int.toNat))) = true from hab)
        have H1 := NxI.start C (c1 := c1') (c2 := c2') (c3 := c3') (c4 := c4') (A := some ⟨b1, o1, none⟩) (B1 := some ⟨b2, o2, none⟩) (D := D) (E := E) (n := n) (k1 := k1) (k2 := k2) (p := p) (u := false) hBw hJ
        have c0 := H1.r1.cell 0
        have c1 := H1.r1.cell 1
        have c2 := H1.r1.cell 2
        have c3 := H1.r1.cell 3
        have s0 := H1.r2.cell 0
        have s1 := H1.r2.cell 1
        go_enter Try.func45, Try.ntmps45
        have hvx := hv.below hB (h0.trans H1.bel)
        go_wp2_with fail
        refine (has_I E k2 c4' _ _ _ hvx.abv).mono ?_
        rintro e w2 ⟨rfl, hb⟩
        have H2 := H1.grow C hb
        rw [Ha.out]
        clear hvx hb
        clear H1 c0 c1 c2 c3 s0 s1
        have c0 := H2.r1.cell 0
        have c1 := H2.r1.cell 1
        have c2 := H2.r1.cell 2
        have c3 := H2.r1.cell 3
        have s0 := H2.r2.cell 0
        have s1 := H2.r2.cell 1
        have a0 := ((keeps (h0.trans H2.bel)).1 b1 (o1 + p) (Nat.lt_of_lt_of_le hlt1 hB)).trans hrow1
        have HN := Lib.hid H2
        clear H2
        go_wp2_with fail
        clear a0 c0 c1 c2 c3 s0 s1
        go_loopw [35] (fun i wr => ∃ k : Nat, i = .int .i64 (k : Nat) ∧ k ≤ m1 ∧ NxI wa B K J wa.heap.size [.slice (some ⟨b1, o1, none⟩) n c1', .slice (some ⟨b2, o2, none⟩) n c2', .slice D k1 c3', .slice E k2 c4'] (p, false) (L ++ (((nth G p).take k).map fun y => (y, true))) wr) (fun i _ => m1 - (intOf i).toNat)
        case atStart => exact ⟨0, rfl, Nat.zero_le _, by rw [List.take_zero, List.map_nil, List.append_nil]; exact HN.out⟩
        case round =>
          obtain ⟨k, rfl, hk, hI⟩ := hrel
          obtain ⟨wb, hwb⟩ : ∃ wb : World, wb = wr := ⟨_, rfl⟩
          subst hwb
          by_cases hkm : k < m1
          · have hslb := HS1.out.below hB (h0.trans hI.bel)
            obtain ⟨b3, o3, rfl, _, hc⟩ := hslb.at' (by omega)
            have g0 := hc k hkm
            have hy : nth (nth G p) k < n := hin1 _ (nth_mem (by rw [HS1.out.len]; exact hkm))
            have hsn := HT1 (L) k hkm (fun y => ((y, true) : St))
            have hok : Ok (L ++ ((nth G p).take k).map (fun y => ((y, true) : St)) ++ [(nth (nth G p) k, true)]) := hOk.out _ (by rw [hsn]; refine take_pre _ _ _ ?_; rw [hL]; first | exact ⟨_, List.append_assoc _ _ _⟩ | exact ⟨[], List.append_nil _⟩ | exact ⟨[], (List.append_nil _).trans (List.append_assoc _ _ _)⟩)
            generalize nth (nth G p) k = y at *
            have HX := Lib.hid (And.intro hI (And.intro hsn hy))
            have hj := hI.j
            have HK := Lib.hid hok
            clear hI hc hslb hsn hok
            go_wp2_with fail
            refine (C.step _ _ (y, true) _ hy HK.out hj).mono ?_
            rintro e w3 ⟨rfl, hj3, hb3, hk3⟩
            have H3 := HX.out.1.step hj3 hb3 hk3
            rw [HX.out.2.1] at H3
            have HF := Lib.hid H3
            clear H3 hj hj3 hb3 hk3
            go_wp2_with fail
            exact ⟨⟨k + 1, by go_num, by omega, HF.out⟩, by simp [intOf]; omega⟩
          · obtain rfl : k = m1 := by omega
            rw [take_all (by rw [HS1.out.len]; exact Nat.le_refl _)] at hI
            have H3 := hI
            have c0 := H3.r1.cell 0
            have c1 := H3.r1.cell 1
            have c2 := H3.r1.cell 2
            have c3 := H3.r1.cell 3
            have s0 := H3.r2.cell 0
            have s1 := H3.r2.cell 1
            have hvx := hv.below hB (h0.trans H3.bel)
            go_wp2_with fail
            refine (has_I D k1 c3' _ _ _ hvx.giv).mono ?_
            rintro e w2 ⟨rfl, hb⟩
            have H4 := H3.grow C hb
            rw [Hz.out]
            clear hvx hb
            clear H3 c0 c1 c2 c3 s0 s1
            have c0 := H4.r1.cell 0
            have c1 := H4.r1.cell 1
            have c2 := H4.r1.cell 2
            have c3 := H4.r1.cell 3
            have s0 := H4.r2.cell 0
            have s1 := H4.r2.cell 1
            have a0 := ((keeps (h0.trans H4.bel)).1 b2 (o2 + p) (Nat.lt_of_lt_of_le hlt2 hB)).trans hrow2
            have HN := Lib.hid H4
            clear H4
            go_wp2_with fail
            clear a0 c0 c1 c2 c3 s0 s1
            go_loopw [57] (fun i wr => ∃ k : Nat, i = .int .i64 (k : Nat) ∧ k ≤ m2 ∧ NxI wa B K J wa.heap.size [.slice (some ⟨b1, o1, none⟩) n c1', .slice (some ⟨b2, o2, none⟩) n c2', .slice D k1 c3', .slice E k2 c4'] (p, false) ((L ++ (nth G p).map fun y => ((y, true) : St)) ++ (((nth (kids G) p).take k).map fun y => (y, false))) wr) (fun i _ => m2 - (intOf i).toNat)
            case atStart => exact ⟨0, rfl, Nat.zero_le _, by rw [List.take_zero, List.map_nil, List.append_nil]; exact HN.out⟩
            case round =>
              obtain ⟨k, rfl, hk, hI⟩ := hrel
              obtain ⟨wb, hwb⟩ : ∃ wb : World, wb = wr := ⟨_, rfl⟩
              subst hwb
              by_cases hkm : k < m2
              · have hslb := HS2.out.below hB (h0.trans hI.bel)
                obtain ⟨b3, o3, rfl, _, hc⟩ := hslb.at' (by omega)
                have g0 := hc k hkm
                have hy : nth (nth (kids G) p) k < n := hin2 _ (nth_mem (by rw [HS2.out.len]; exact hkm))
                have hsn := HT2 ((L ++ (nth G p).map fun y => ((y, true) : St))) k hkm (fun y => ((y, false) : St))
                have hok : Ok ((L ++ (nth G p).map fun y => ((y, true) : St)) ++ ((nth (kids G) p).take k).map (fun y => ((y, false) : St)) ++ [(nth (nth (kids G) p) k, false)]) := hOk.out _ (by rw [hsn]; refine take_pre _ _ _ ?_; rw [hL]; first | exact ⟨_, List.append_assoc _ _ _⟩ | exact ⟨[], List.append_nil _⟩ | exact ⟨[], (List.append_nil _).trans (List.append_assoc _ _ _)⟩)
                generalize nth (nth (kids G) p) k = y at *
                have HX := Lib.hid (And.intro hI (And.intro hsn hy))
                have hj := hI.j
                have HK := Lib.hid hok
                clear hI hc hslb hsn hok
                go_wp2_with fail
                refine (C.step _ _ (y, false) _ hy HK.out hj).mono ?_
                rintro e w3 ⟨rfl, hj3, hb3, hk3⟩
                have H3 := HX.out.1.step hj3 hb3 hk3
                rw [HX.out.2.1] at H3
                have HF := Lib.hid H3
                clear H3 hj hj3 hb3 hk3
                go_wp2_with fail
                exact ⟨⟨k + 1, by go_num, by omega, HF.out⟩, by simp [intOf]; omega⟩
              · obtain rfl : k = m2 := by omega
                rw [take_all (by rw [HS2.out.len]; exact Nat.le_refl _)] at hI
                have H5 := hI
                have c0 := H5.r1.cell 0
                have c1 := H5.r1.cell 1
                have c2 := H5.r1.cell 2
                have c3 := H5.r1.cell 3
                have s0 := H5.r2.cell 0
                have s1 := H5.r2.cell 1
                clear c0 c1 c2 c3 s0 s1
                have HE := Lib.hid H5; clear H5
                go_wp2_with fail
                go_end0
                refine ⟨rfl, ?_, HE.out.bel, HE.out.kept⟩
                rw [hL]
                first
                  | exact C.weak _ _ _ _ HE.out.j (fun b hb => .inl hb)
                  | (rw [← List.append_assoc]; exact C.weak _ _ _ _ HE.out.j (fun b hb => .inl hb))
    | false =>
      by_cases hz : zB Z p = true
      · have hL : nextL G Z (p, false) = [] := by simp [nextL, hz, hab]
        have Hz := Lib.hid (show decide ((p : Int) ∈ Z) = true from hz)
        have Ha := Lib.hid (show decide ((p : Int) ∈ castL (upList G (Z.map Int.toNat))) = false from hab)
        have H1 := NxI.start C (c1 := c1') (c2 := c2') (c3 := c3') (c4 := c4') (A := some ⟨b1, o1, none⟩) (B1 := some ⟨b2, o2, none⟩) (D := D) (E := E) (n := n) (k1 := k1) (k2 := k2) (p := p) (u := false) hBw hJ
        have c0 := H1.r1.cell 0
        have c1 := H1.r1.cell 1
        have c2 := H1.r1.cell 2
        have c3 := H1.r1.cell 3
        have s0 := H1.r2.cell 0
        have s1 := H1.r2.cell 1
        go_enter Try.func45, Try.ntmps45
        have hvx := hv.below hB (h0.trans H1.bel)
        go_wp2_with fail
        refine (has_I E k2 c4' _ _ _ hvx.abv).mono ?_
        rintro e w2 ⟨rfl, hb⟩
        have H2 := H1.grow C hb
        rw [Ha.out]
        clear hvx hb
        clear H1 c0 c1 c2 c3 s0 s1
        have c0 := H2.r1.cell 0
        have c1 := H2.r1.cell 1
        have c2 := H2.r1.cell 2
        have c3 := H2.r1.cell 3
        have s0 := H2.r2.cell 0
        have s1 := H2.r2.cell 1
        have hvx := hv.below hB (h0.trans H2.bel)
        go_wp2_with fail
        refine (has_I D k1 c3' _ _ _ hvx.giv).mono ?_
        rintro e w2 ⟨rfl, hb⟩
        have H4 := H2.grow C hb
        rw [Hz.out]
        clear hvx hb
        clear H2 c0 c1 c2 c3 s0 s1
        have c0 := H4.r1.cell 0
        have c1 := H4.r1.cell 1
        have c2 := H4.r1.cell 2
        have c3 := H4.r1.cell 3
        have s0 := H4.r2.cell 0
        have s1 := H4.r2.cell 1
        clear c0 c1 c2 c3 s0 s1
        have HE := Lib.hid H4; clear H4
        go_wp2_with fail
        go_end0
        exact ⟨rfl, by rw [hL, List.append_nil]; exact C.weak _ _ _ _ HE.out.j (fun b hb => .inl hb), HE.out.bel, HE.out.kept⟩
      · have hL : nextL G Z (p, false) = (nth (kids G) p).map (fun y => (y, false)) := by simp [nextL, hz, hab]
        have Hz := Lib.hid (show decide ((p : Int) ∈ Z) = false from by simpa [zB] using hz)
        have Ha := Lib.hid (show decide ((p : Int) ∈ castL (upList G (Z.map Int.toNat))) = false from hab)
        have H1 := NxI.start C (c1 := c1') (c2 := c2') (c3 := c3') (c4 := c4') (A := some ⟨b1, o1, none⟩) (B1 := some ⟨b2, o2, none⟩) (D := D) (E := E) (n := n) (k1 := k1) (k2 := k2) (p := p) (u := false) hBw hJ
        have c0 := H1.r1.cell 0
        have c1 := H1.r1.cell 1
        have c2 := H1.r1.cell 2
        have c3 := H1.r1.cell 3
        have s0 := H1.r2.cell 0
        have s1 := H1.r2.cell 1
        go_enter Try.func45, Try.ntmps45
        have hvx := hv.below hB (h0.trans H1.bel)
        go_wp2_with fail
        refine (has_I E k2 c4' _ _ _ hvx.abv).mono ?_
        rintro e w2 ⟨rfl, hb⟩
        have H2 := H1.grow C hb
        rw [Ha.out]
        clear hvx hb
        clear H1 c0 c1 c2 c3 s0 s1
        have c0 := H2.r1.cell 0
        have c1 := H2.r1.cell 1
        have c2 := H2.r1.cell 2
        have c3 := H2.r1.cell 3
        have s0 := H2.r2.cell 0
        have s1 := H2.r2.cell 1
        have hvx := hv.below hB (h0.trans H2.bel)
        go_wp2_with fail
        refine (has_I D k1 c3' _ _ _ hvx.giv).mono ?_
        rintro e w2 ⟨rfl, hb⟩
        have H4 := H2.grow C hb
        rw [Hz.out]
        clear hvx hb
        clear H2 c0 c1 c2 c3 s0 s1
        have c0 := H4.r1.cell 0
        have c1 := H4.r1.cell 1
        have c2 := H4.r1.cell 2
        have c3 := H4.r1.cell 3
        have s0 := H4.r2.cell 0
        have s1 := H4.r2.cell 1
        have a0 := ((keeps (h0.trans H4.bel)).1 b2 (o2 + p) (Nat.lt_of_lt_of_le hlt2 hB)).trans hrow2
        have HN := Lib.hid H4
        clear H4
        go_wp2_with fail
        clear a0 c0 c1 c2 c3 s0 s1
        go_loopw [57] (fun i wr => ∃ k : Nat, i = .int .i64 (k : Nat) ∧ k ≤ m2 ∧ NxI wa B K J wa.heap.size [.slice (some ⟨b1, o1, none⟩) n c1', .slice (some ⟨b2, o2, none⟩) n c2', .slice D k1 c3', .slice E k2 c4'] (p, false) (L ++ (((nth (kids G) p).take k).map fun y => (y, false))) wr) (fun i _ => m2 - (intOf i).toNat)
        case atStart => exact ⟨0, rfl, Nat.zero_le _, by rw [List.take_zero, List.map_nil, List.append_nil]; exact HN.out⟩
        case round =>
          obtain ⟨k, rfl, hk, hI⟩ := hrel
          obtain ⟨wb, hwb⟩ : ∃ wb : World, wb = wr := ⟨_, rfl⟩
          subst hwb
          by_cases hkm : k < m2
          · have hslb := HS2.out.below hB (h0.trans hI.bel)
            obtain ⟨b3, o3, rfl, _, hc⟩ := hslb.at' (by omega)
            have g0 := hc k hkm
            have hy : nth (nth (kids G) p) k < n := hin2 _ (nth_mem (by rw [HS2.out.len]; exact hkm))
            have hsn := HT2 (L) k hkm (fun y => ((y, false) : St))
            have hok : Ok (L ++ ((nth (kids G) p).take k).map (fun y => ((y, false) : St)) ++ [(nth (nth (kids G) p) k, false)]) := hOk.out _ (by rw [hsn]; refine take_pre _ _ _ ?_; rw [hL]; first | exact ⟨_, List.append_assoc _ _ _⟩ | exact ⟨[], List.append_nil _⟩ | exact ⟨[], (List.append_nil _).trans (List.append_assoc _ _ _)⟩)
            generalize nth (nth (kids G) p) k = y at *
            have HX := Lib.hid (And.intro hI (And.intro hsn hy))
            have hj := hI.j
            have HK := Lib.hid hok
            clear hI hc hslb hsn hok
            go_wp2_with fail
            refine (C.step _ _ (y, false) _ hy HK.out hj).mono ?_
            rintro e w3 ⟨rfl, hj3, hb3, hk3⟩
            have H3 := HX.out.1.step hj3 hb3 hk3
            rw [HX.out.2.1] at H3
            have HF := Lib.hid H3
            clear H3 hj hj3 hb3 hk3
            go_wp2_with fail
            exact ⟨⟨k + 1, by go_num, by omega, HF.out⟩, by simp [intOf]; omega⟩
          · obtain rfl : k = m2 := by omega
            rw [take_all (by rw [HS2.out.len]; exact Nat.le_refl _)] at hI
            have H5 := hI
            have c0 := H5.r1.cell 0
            have c1 := H5.r1.cell 1
            have c2 := H5.r1.cell 2
            have c3 := H5.r1.cell 3
            have s0 := H5.r2.cell 0
            have s1 := H5.r2.cell 1
            clear c0 c1 c2 c3 s0 s1
            have HE := Lib.hid H5; clear H5
            go_wp2_with fail
            go_end0
            refine ⟨rfl, ?_, HE.out.bel, HE.out.kept⟩
            rw [hL]
            first
              | exact C.weak _ _ _ _ HE.out.j (fun b hb => .inl hb)
              | (rw [← List.append_assoc]; exact C.weak _ _ _ _ HE.out.j (fun b hb => .inl hb))
end Go.Proofs.Ytaibdlnolpbpiaa
/- sep's view.reach: its closure, walked: a state that was not seen is put in. Conditions: the captured variables are the call's own. -/
namespace Go.Proofs.Ytaibdlnolpbpiaa
open Go.RowKit

/-- the cells of some states -/
def cellsS : List St → List Value
  | [] => []
  | s :: r => .int .i64 (s.1 : Int) :: .bool s.2 :: cellsS r
theorem cellsS_length : ∀ l : List St, (cellsS l).length = l.length * 2
  | [] => rfl
  | s :: r => by simp [cellsS, cellsS_length r]; omega
theorem cellsS_append : ∀ l m : List St, cellsS (l ++ m) = cellsS l ++ cellsS m
  | [], _ => rfl
  | s :: r, m => by simp [cellsS, cellsS_append r m]
theorem cellsS_drop (s : St) (l : List St) : (cellsS (s :: l)).drop 2 = cellsS l := rfl
open Classical in
/-- a map of what was seen -/
noncomputable def seenS (S : List St) : St → Option Int := fun s => if s ∈ S then some 1 else none
theorem seenS_in {S : List St} {s : St} (h : s ∈ S) : seenS S s = some 1 := by unfold seenS; rw [if_pos h]
theorem seenS_out {S : List St} {s : St} (h : s ∉ S) : seenS S s = none := by unfold seenS; rw [if_neg h]
theorem seenS_snoc (S : List St) (s t : St) : putS (seenS S) s 1 t = seenS (S ++ [s]) t := by
  unfold putS seenS
  by_cases h : t = s
  · subst h; rw [if_pos rfl, if_pos (by simp)]
  · rw [if_neg h]
    by_cases h2 : t ∈ S
    · rw [if_pos h2, if_pos (by simp [h2])]
    · rw [if_neg h2, if_neg (by simp [h, h2])]
/-- a state put in, if it is not in -/
def add1 (S : List St) (s : St) : List St := if s ∈ S then S else S ++ [s]
def addS (S : List St) (l : List St) : List St := l.foldl add1 S
theorem addS_snoc (S l : List St) (s : St) : addS S (l ++ [s]) = add1 (addS S l) s := by simp [addS]
theorem mem_add1 {S : List St} {s t : St} : t ∈ add1 S s ↔ t ∈ S ∨ t = s := by
  unfold add1
  split
  · constructor
    · exact .inl
    · rintro (h | rfl)
      · exact h
      · assumption
  · simp
theorem add1_nodup {S : List St} (h : S.Nodup) (s : St) : (add1 S s).Nodup := by
  unfold add1
  split
  · exact h
  · rename_i hn
    rw [List.nodup_append]
    exact ⟨h, by simp, fun a ha b hb => by rw [List.mem_singleton] at hb; subst hb; rintro rfl; exact hn ha⟩
theorem add1_prefix (S : List St) (s : St) : ∃ m, add1 S s = S ++ m := by
  unfold add1
  split
  · exact ⟨[], by simp⟩
  · exact ⟨[s], rfl⟩
def codeS (s : St) : Nat := 2 * s.1 + (if s.2 then 1 else 0)
theorem codeS_inj {s t : St} (h : codeS s = codeS t) : s = t := by
  obtain ⟨p, u⟩ := s
  obtain ⟨q, v⟩ := t
  unfold codeS at h
  cases u <;> cases v <;> simp at h <;> first | omega | (congr 1; omega) | (exfalso; omega)
theorem states_length {S : List St} (h : S.Nodup) {n : Nat} (hl : ∀ s, s ∈ S → s.1 < n) : S.length ≤ 2 * n := by
  have h1 : (S.map codeS).Nodup := by
    rw [List.nodup_iff_pairwise_ne, List.pairwise_map]
    exact (List.nodup_iff_pairwise_ne.1 h).imp fun hne e => hne (codeS_inj e)
  have := nodup_lt_length h1 (n := 2 * n) (fun x hx => by
    obtain ⟨s, hs, rfl⟩ := List.mem_map.1 hx
    have := hl s hs
    unfold codeS
    split <;> omega)
  rw [List.length_map] at this
  exact this

theorem MapS.turn {k e : TypeId} {w w' : World} {b n : Nat} {g : St → Option Int} {T : Nat → Prop} (h : MapS k e w b n g) (ht : Turn w w' T) (hT : ¬ T b) : MapS k e w' b n g := by
  have hlt := h.lt
  obtain ⟨D, ⟨es, clock, hb, F⟩, q⟩ := h
  exact ⟨D, ⟨es, clock, (ht.block b hlt hT).trans hb, F⟩, q⟩
theorem below_turn {B : Nat} {a b c : World} {T : Nat → Prop} (h : Below B a b) (ht : Turn b c T) (hB : B ≤ b.heap.size) (hT : ∀ x, x < B → ¬ T x) : Below B a c := h.trans (ht.below hB hT)
/-- a captured map of what was seen, and a captured queue: what was seen, from place pos on -/
structure VisS (B n : Nat) (K : Nat → Prop) (mb sb ob : Nat) (A : Option Addr) (k c : Nat) (S : List St) (pos : Nat) (w : World) : Prop where
  map : MapS 63 3 w mb S.length (seenS S)
  sc : RowC w sb 60 [.map (some mb)]
  oc : RowC w ob 80 [.slice A k c]
  oo : OwnQ w (ob + 1) 63 2 A k c (cellsS (S.drop pos))
  nd : S.Nodup
  bnd : ∀ s, s ∈ S → s.1 < n
  pos_le : pos ≤ S.length
  lt0 : B ≤ mb
  lt1 : mb < sb
  lt2 : sb < ob
  far : ∀ b, K b → b < w.heap.size ∧ b ≠ mb ∧ b ≠ ob ∧ ∀ off, A ≠ some ⟨b, off, none⟩
section
variable {B n : Nat} {K K' : Nat → Prop} {mb sb ob k c pos : Nat} {A : Option Addr} {S : List St} {w w' : World}
theorem VisS.row (h : VisS B n K mb sb ob A k c S pos w) {b off : Nat} (e : A = some ⟨b, off, none⟩) : ob < b ∧ b < w.heap.size := by
  rcases h.oo.at_row with h1 | ⟨g', off', h1, h2, h3⟩
  · rw [e] at h1; cases h1
  · rw [e] at h1; injection h1 with h1; injection h1 with h1; omega
theorem VisS.step (h : VisS B n K mb sb ob A k c S pos w) (hb : Below w.heap.size w w') : VisS B n (fun b => K b ∨ (w.heap.size ≤ b ∧ b < w'.heap.size)) mb sb ob A k c S pos w' := by
  have h1 := h.map.lt
  have h2 := h.oc.lt
  refine ⟨h.map.below hb, h.sc.below' hb, h.oc.below' hb, h.oo.below hb, h.nd, h.bnd, h.pos_le, h.lt0, h.lt1, h.lt2, fun b hk => ?_⟩
  rcases hk with hk | hk
  · obtain ⟨f1, f2⟩ := h.far b hk
    exact ⟨Nat.lt_of_lt_of_le f1 hb.size, f2⟩
  · exact ⟨hk.2, by omega, by omega, fun off e => by have := (h.row e).2; omega⟩
theorem VisS.weak (h : VisS B n K mb sb ob A k c S pos w) (hk : ∀ b, K' b → K b) : VisS B n K' mb sb ob A k c S pos w :=
  ⟨h.map, h.sc, h.oc, h.oo, h.nd, h.bnd, h.pos_le, h.lt0, h.lt1, h.lt2, fun b hb => h.far b (hk b hb)⟩
theorem VisS.k_eq (h : VisS B n K mb sb ob A k c S pos w) : k = S.length - pos := by
  have := h.oo.len
  rw [cellsS_length, List.length_drop] at this
  omega
theorem VisS.size_le (h : VisS B n K mb sb ob A k c S pos w) : S.length ≤ 2 * n := states_length h.nd h.bnd
end
theorem infoState : ∃ i : TypeInfo, Try.prog.underlying 80 = some (.slice 63) ∧ Try.prog.info? 63 = some i ∧ i.zero = some (.agg #[.int .i64 0, .bool false]) ∧ i.size = 2 ∧ i.bytes = 16 := by
  obtain ⟨i0, hi, hz0, hz1, hz2⟩ := info_parts (show (Try.prog.info? 63).map (fun i => (i.zero, i.size, i.bytes)) = some (some (.agg #[.int .i64 0, .bool false]), 2, 16) from by kernel_rfl)
  exact ⟨i0, Try.underlying80, hi, hz0, hz1, hz2⟩
theorem cells_new (w : World) (vs : List Value) (e : TypeId) (j : Nat) (u : Value) (h : vs[j]? = some u) : (w.alloc (.cells vs.toArray e)).cell? ((⟨w.heap.size, 0, none⟩ : Addr).add j) = some u := by
  rw [Addr.add_lit, Nat.zero_add, (RowC.new w e vs).cell j]; exact h
def GoesPost (B n : Nat) (K : Nat → Prop) (mb sb ob : Nat) (S : List St) (pos : Nat) (s : St) (w : World) (e : Ending) (w' : World) : Prop :=
  e = .returned (.tuple #[]) ∧ (∃ A k c, VisS B n K mb sb ob A k c (add1 S s) pos w') ∧ Below B w w' ∧ ∀ b, K b → w'.heap[b]? = w.heap[b]?

set_option maxRecDepth 100000 in
set_option maxHeartbeats 1600000 in
theorem goes_any (B n : Nat) (K : Nat → Prop) (mb sb ob : Nat) (A : Option Addr) (k c : Nat) (S : List St) (pos : Nat) (s : St) (w : World) (hn : n * 64 ≤ 140737488351232) (hs : s.1 < n) (h : VisS B n K mb sb ob A k c S pos w) :
    Calls Try.prog 62 #[sV s, .pointer (some ⟨sb, 0, none⟩), .pointer (some ⟨ob, 0, none⟩)] w (GoesPost B n K mb sb ob S pos s w) := by
  obtain ⟨wa, hwa⟩ : ∃ wa : World, wa = w := ⟨_, rfl⟩
  subst hwa
  have hb0 : Below wa.heap.size wa (wa.alloc (.cells #[.int .i64 (s.1 : Int), .bool s.2] 63)) := (Below.refl _ _).alloc (Nat.le_refl _) _
  have H1 := h.step hb0
  have hok : okS s := by unfold okS; omega
  have hmb := h.map.lt
  have hBs : B ≤ wa.heap.size := Nat.le_trans h.lt0 (Nat.le_of_lt h.map.lt)
  have hbn := RowC.new wa 63 [.int .i64 (s.1 : Int), .bool s.2]
  have hK0 : ∀ b, K b → (wa.alloc (.cells #[.int .i64 (s.1 : Int), .bool s.2] 63)).heap[b]? = wa.heap[b]? := fun b hk => hb0.block b (h.far b hk).1
  have r1 := H1.sc.cell 0
  have b0 := hbn.cell 0
  have b1 := hbn.cell 1
  have hmap := H1.map
  have hb0' := hb0.mono hBs
  clear h hb0
  have HF := Lib.hid (And.intro H1 (And.intro hb0' (And.intro hK0 hbn)))
  clear H1 hb0' hK0 hbn
  by_cases hin : s ∈ S
  · have hv := seenS_in hin
    have HV := Lib.hid hv
    clear hv
    go_enter Try.func62, Try.ntmps62
    go_wp2_with (first
      | (at_lookup; refine wpList_look_S _ rfl _ _ 60 rfl 3 Try.underlying60 Try.underlying3 (zeroI _) mb _ _ rfl hmap s rfl hok ?_; rw [HV.out])
      | fail)
    go_end0
    refine ⟨rfl, ⟨A, k, c, ?_⟩, HF.out.2.1, HF.out.2.2.1⟩
    have : add1 S s = S := by unfold add1; rw [if_pos hin]
    rw [this]
    exact HF.out.1.weak fun b hb => .inl hb
  · have hv := seenS_out hin
    have HV := Lib.hid hv
    clear hv
    have hlen : S.length < maxLen := by have := HF.out.1.size_le; unfold maxLen; omega
    go_enter Try.func62, Try.ntmps62
    go_wp2_with (first
      | (at_lookup; refine wpList_look_S _ rfl _ _ 60 rfl 3 Try.underlying60 Try.underlying3 (zeroI _) mb _ _ rfl hmap s rfl hok ?_; rw [HV.out])
      | (at_mapUpdate; refine wpList_store_S _ rfl _ _ _ 60 rfl 3 Try.underlying60 Try.underlying3 mb _ _ rfl hmap hlen s rfl hok 1 rfl (by decide) ?_)
      | fail)
    intro w1 hm1 hg1
    obtain ⟨H1, hb0, hK0, hbn⟩ := HF.out
    have hlt1 := H1.lt1
    have hlt2 := H1.lt2
    have hmlt := H1.map.lt
    have hm2 : MapS 63 3 w1 mb (S.length + 1) (seenS (S ++ [s])) := hm1.congr (seenS_snoc S s)
    have hsc := H1.sc.grown hg1 (by intro e; injection e; omega)
    have hoc := H1.oc.grown hg1 (by intro e; injection e; omega)
    have hoo := H1.oo.turn (Turn.of_grown hg1) (fun g off e e2 => by injection e2 with e2; have := (H1.row e).1; omega)
    have hmw : mb < wa.heap.size := hmb
    have hbb := hbn.grown hg1 (by intro e; injection e; omega)
    have hb1 : Below B wa w1 := hb0.grown hg1 (by simp; omega) (fun g e => by cases e; exact H1.lt0)
    have hK1 : ∀ b, K b → w1.heap[b]? = wa.heap[b]? := fun b hk => by
      rw [← hK0 b hk]
      exact hg1.block b (H1.far b (.inl hk)).1 (fun e => (H1.far b (.inl hk)).2.1 (by injection e))
    have hpos := H1.pos_le
    have hk16 : (k + 1) * 16 ≤ 140737488355328 := by have := H1.k_eq; have := H1.size_le; omega
    have hrow := fun (b off : Nat) => H1.row (b := b) (off := off)
    have hfar := fun b (hk : K b) => H1.far b (.inl hk)
    have hnd := H1.nd
    have hbd := H1.bnd
    have hlt0 := H1.lt0
    have c0 := hsc.cell 0
    have c1 := hoc.cell 0
    have d0 := hbb.cell 0
    have d1 := hbb.cell 1
    have hq := hoo.alloc (.cells #[.int .i64 (s.1 : Int), .bool s.2] 63)
    have hol := hoc.lt
    have hsz1 := hg1.size
    have HG := Lib.hid (And.intro hm2 (And.intro hsc (And.intro hoc (And.intro hb1 (And.intro hK1 (And.intro hrow (And.intro hfar (And.intro hnd hbd))))))))
    clear hm1 hm2 hsc hoc hb1 hK1 hoo hbb hg1 H1 HF hb0 hK0 hbn hmap b0 b1 r1 hrow hfar hnd hbd
    have HP := Lib.hid hpos
    clear hpos
    obtain ⟨i, e1, e2, e3, e4, e5⟩ := infoState
    go_wp2_with (first
      | (at_builtin; refine wpList_app_q _ rfl _ _ 80 rfl 63 i _ 2 16 e1 e2 e3 e4 e5 (by simp [Value.cells]) (by omega) (ob + 1) _ _ _ _ rfl hq (by simp; omega) ⟨w1.heap.size, 0, none⟩ 1 1 [.int .i64 (s.1 : Int), .bool s.2] rfl rfl (cells_new w1 _ 63) (by intro u hu; simp at hu; rcases hu with rfl | rfl <;> rfl) hk16 (by omega) ?_)
      | fail)
    intro A9 c9 w9 ho9 ht9 hd9
    obtain ⟨hm2, hsc, hoc, hb1, hK1, hrow, hfar, hnd, hbd⟩ := HG.out
    have hob : ∀ b, b ≤ ob → ¬ ∃ off, A = some ⟨b, off, none⟩ := fun b hb ⟨off, e⟩ => by have := (hrow b off e).1; omega
    have hm9 := (hm2.alloc (.cells #[.int .i64 (s.1 : Int), .bool s.2] 63)).turn ht9 (hob mb (by omega))
    have hs9 := (hsc.alloc (.cells #[.int .i64 (s.1 : Int), .bool s.2] 63)).turn ht9 (hob sb (by omega))
    have hc9 := (hoc.alloc (.cells #[.int .i64 (s.1 : Int), .bool s.2] 63)).turn ht9 (hob ob (Nat.le_refl _))
    have hb9 : Below B wa w9 := below_turn (hb1.alloc (Nat.le_trans hBs hb1.size) (.cells #[.int .i64 (s.1 : Int), .bool s.2] 63)) ht9 (by simp; have := hb1.size; omega) fun x hx => hob x (by omega)
    have hnb : ∀ g off, A9 = some ⟨g, off, none⟩ → ob < g := fun g off e => by
      rcases hd9 g off e with ⟨off', h1⟩ | h1
      · exact (hrow g off' h1).1
      · first | omega | (simp at h1; omega)
    have hK9 : ∀ b, K b → w9.heap[b]? = wa.heap[b]? := fun b hk => by
      have hf := hfar b hk
      have hlt : b < w1.heap.size := by have := hf.1; omega
      rw [← hK1 b hk, ht9.block b (by simp; omega) (fun ⟨off, e⟩ => hf.2.2.2 off e)]
      exact (MapKept.heap_alloc w1 _).2 b hlt
    have hfin : VisS B n K mb sb ob A9 (k + 1) c9 (S ++ [s]) pos (w9.setCell ⟨ob, 0, none⟩ (.slice A9 (k + 1) c9)) := by
      refine ⟨?_, hs9.far (by simp; omega) _, hc9.put 0 _, ?_, ?_, ?_, by rw [List.length_append]; have := HP.out; omega, hlt0, hlt1, hlt2, fun b hk => ?_⟩
      · rw [List.length_append]; exact hm9.setCell (by simp; omega) _
      · rw [List.drop_append_of_le_length HP.out, cellsS_append]
        exact ho9.setFar (fun g off e => by have := hnb g off e; simp; omega) _
      · rw [List.nodup_append]
        exact ⟨hnd, by simp, fun a ha b hb => by rw [List.mem_singleton] at hb; subst hb; rintro rfl; exact hin ha⟩
      · intro t ht
        rcases List.mem_append.1 ht with h1 | h1
        · exact hbd t h1
        · rw [List.mem_singleton] at h1; subst h1; exact hs
      · have hf := hfar b hk
        refine ⟨?_, hf.2.1, hf.2.2.1, fun off e => ?_⟩
        · have h1 := ht9.size
          have h2 := hf.1
          simp at h1 h2 ⊢
          have : b < w9.heap.size := by omega
          simpa [World.setCell] using this
        · rcases hd9 b off e with ⟨off', h1⟩ | h1
          · exact hf.2.2.2 off' h1
          · have h2 := hf.1
            first | omega | (simp at h1 h2; omega)
    have hbf : Below B wa (w9.setCell ⟨ob, 0, none⟩ (.slice A9 (k + 1) c9)) := hb9.setCell (p := ⟨ob, 0, none⟩) (by simp; omega) _
    have hKf : ∀ b, K b → (w9.setCell ⟨ob, 0, none⟩ (.slice A9 (k + 1) c9)).heap[b]? = wa.heap[b]? := fun b hk => by
      rw [← hK9 b hk]
      exact Below.heap_setCell _ _ _ _ (fun e => (hfar b hk).2.2.1 e)
    have r9 := hc9.cell 0
    have f9 := hc9.frozen 0
    have HF := Lib.hid (And.intro hfin (And.intro hbf hKf))
    clear hfin hbf hKf hm9 hs9 hc9 hb9 hnb hK9 hm2 hsc hoc hb1 hK1 hrow hfar hnd hbd hob ho9 ht9 hd9 c0 c1 d0 d1 hq HG
    go_wp2_with fail
    go_end0
    have e0 : add1 S s = S ++ [s] := by unfold add1; rw [if_neg hin]
    exact ⟨rfl, ⟨A9, k + 1, c9, by rw [e0]; exact HF.out.1⟩, HF.out.2.1, HF.out.2.2⟩
end Go.Proofs.Ytaibdlnolpbpiaa
/- Plain law: a search over states that takes one after the other comes to all that open trails come to. No condition. -/
namespace Go.Proofs.Ytaibdlnolpbpiaa

def Zp (Z : List Int) (p : Nat) : Prop := zB Z p = true
def Ap (G : List (List Nat)) (Z : List Int) (p : Nat) : Prop := aB G Z p = true
theorem mem_nextL {G : List (List Nat)} {Z : List Int} {s t : St} (hs : s.1 < G.length) : t ∈ nextL G Z s ↔ Nx G (Zp Z) (Ap G Z) s t := by
  obtain ⟨p, u⟩ := s
  unfold nextL
  constructor
  · intro h
    split at h
    · simp at h
    · rename_i h1
      have h1' : ¬ (u = true ∧ Zp Z p) := by intro ⟨a, b⟩; apply h1; rw [Bool.and_eq_true]; exact ⟨a, b⟩
      rcases List.mem_append.1 h with h2 | h2
      · split at h2
        · rename_i h3
          obtain ⟨q, hq, rfl⟩ := List.mem_map.1 h2
          refine .up h1' ?_ hq
          rw [Bool.or_eq_true] at h3; exact h3
        · simp at h2
      · split at h2
        · simp at h2
        · rename_i h3
          obtain ⟨c, hc, rfl⟩ := List.mem_map.1 h2
          rw [mem_kids hs] at hc
          exact .down h3 hc.1 hc.2
  · intro h
    cases h with
    | up g1 g2 g3 =>
      rename_i q
      rw [if_neg (by rw [Bool.and_eq_true]; exact g1), if_pos (by rw [Bool.or_eq_true]; exact g2)]
      exact List.mem_append_left _ (List.mem_map.2 ⟨q, g3, rfl⟩)
    | down g1 g2 g3 =>
      rename_i c
      rw [if_neg (by rw [Bool.and_eq_true]; exact fun h => g1 h.2)]
      refine List.mem_append_right _ ?_
      rw [if_neg (show ¬ zB Z p = true from g1)]
      exact List.mem_map.2 ⟨c, (mem_kids hs).2 ⟨g2, g3⟩, rfl⟩
/-- a state that is come to from some points that are not given -/
def CameS (G : List (List Nat)) (Z : List Int) (xs : List Nat) (s : St) : Prop := ∃ a m, a ∈ xs ∧ zB Z a = false ∧ Go (G := G) (Z := Zp Z) (Ab := Ap G Z) m (a, true) s
theorem mem_addS {l : List St} : ∀ {S : List St} {t : St}, t ∈ addS S l ↔ t ∈ S ∨ t ∈ l := by
  induction l with
  | nil => intro S t; simp [addS]
  | cons s l ih =>
    intro S t
    show t ∈ addS (add1 S s) l ↔ _
    rw [ih, mem_add1, List.mem_cons]
    constructor
    · rintro ((h | h) | h)
      · exact .inl h
      · exact .inr (.inl h)
      · exact .inr (.inr h)
    · rintro (h | h | h)
      · exact .inl (.inl h)
      · exact .inl (.inr h)
      · exact .inr h
theorem addS_prefix (l : List St) : ∀ S : List St, ∃ m, addS S l = S ++ m := by
  induction l with
  | nil => intro S; exact ⟨[], by simp [addS]⟩
  | cons s l ih =>
    intro S
    obtain ⟨m1, h1⟩ := add1_prefix S s
    obtain ⟨m2, h2⟩ := ih (add1 S s)
    exact ⟨m1 ++ m2, by show addS (add1 S s) l = _; rw [h2, h1, List.append_assoc]⟩
theorem addS_length (S l : List St) : S.length ≤ (addS S l).length := by obtain ⟨m, h⟩ := addS_prefix l S; rw [h]; simp
theorem nth_addS {S l : List St} {j : Nat} (h : j < S.length) : nth (addS S l) j = nth S j := by obtain ⟨m, e⟩ := addS_prefix l S; rw [e, nth_append_left h]
/-- the search on its way: S was seen, the first pos of it are done -/
structure Fl (G : List (List Nat)) (Z : List Int) (xs : List Nat) (S : List St) (pos : Nat) : Prop where
  came : ∀ s, s ∈ S → CameS G Z xs s
  start : ∀ a, a ∈ xs → zB Z a = false → ((a, true) : St) ∈ S
  clo : ∀ j, j < pos → ∀ t, t ∈ nextL G Z (nth S j) → t ∈ S
theorem Fl.begin {G : List (List Nat)} {Z : List Int} {xs : List Nat} : Fl G Z xs (addS [] ((xs.filter fun a => ! zB Z a).map fun a => (a, true))) 0 := by
  refine ⟨fun s hs => ?_, fun a ha hz => ?_, fun j hj => by omega⟩
  · rcases mem_addS.1 hs with h | h
    · simp at h
    · obtain ⟨a, ha, rfl⟩ := List.mem_map.1 h
      rw [List.mem_filter] at ha
      exact ⟨a, 0, ha.1, by simpa using ha.2, .refl _⟩
  · exact mem_addS.2 (.inr (List.mem_map.2 ⟨a, List.mem_filter.2 ⟨ha, by simp [hz]⟩, rfl⟩))
theorem Fl.step {G : List (List Nat)} {Z : List Int} {xs : List Nat} {S : List St} {pos : Nat} (h : Fl G Z xs S pos) (hp : pos < S.length) (hb : ∀ s, s ∈ S → s.1 < G.length) : Fl G Z xs (addS S (nextL G Z (nth S pos))) (pos + 1) := by
  have hm := nth_mem hp
  refine ⟨fun s hs => ?_, fun a ha hz => mem_addS.2 (.inl (h.start a ha hz)), fun j hj t ht => ?_⟩
  · rcases mem_addS.1 hs with h1 | h1
    · exact h.came s h1
    · obtain ⟨a, m, ha, hz, hg⟩ := h.came _ hm
      exact ⟨a, m + 1, ha, hz, hg.snoc ((mem_nextL (hb _ hm)).1 h1)⟩
  · rcases Nat.lt_or_ge j pos with h1 | h1
    · rw [nth_addS (by omega)] at ht
      exact mem_addS.2 (.inl (h.clo j h1 t ht))
    · obtain rfl : j = pos := by omega
      rw [nth_addS hp] at ht
      exact mem_addS.2 (.inr ht)
theorem Fl.done {G : List (List Nat)} {Z : List Int} {xs : List Nat} {S : List St} (h : Fl G Z xs S S.length) (hb : ∀ s, s ∈ S → s.1 < G.length) (s : St) : s ∈ S ↔ CameS G Z xs s := by
  refine ⟨h.came s, ?_⟩
  rintro ⟨a, m, ha, hz, hg⟩
  have hs := h.start a ha hz
  clear ha hz
  generalize (a, true) = r at hs hg
  induction hg with
  | refl => exact hs
  | snoc _ hx ih =>
    have h1 := ih hs
    obtain ⟨j, hj, e⟩ := mem_nth h1
    rw [← e] at hx
    exact h.clo j hj _ ((mem_nextL (hb _ (nth_mem hj))).2 hx)
theorem next_lt {G : List (List Nat)} {p : Nat} (hg : GoodG G) (hp : p < G.length) : (∀ q, q ∈ nth G p → q < G.length) ∧ ∀ q, q ∈ nth (kids G) p → q < G.length := by
  refine ⟨fun q hq => hg p hp q hq, fun q hq => ?_⟩
  exact ((mem_kids hp).1 hq).1
end Go.Proofs.Ytaibdlnolpbpiaa
/- sep's view.reach, walked: all states that open trails come to. Conditions: the view and the points within Go's bound. -/
namespace Go.Proofs.Ytaibdlnolpbpiaa
open Go.RowKit

theorem clo_reach (B n mb sb ob pos : Nat) (S0 : List St) (hn : n * 64 ≤ 140737488351232) :
    Clo B n 62 #[.pointer (some ⟨sb, 0, none⟩), .pointer (some ⟨ob, 0, none⟩)] (fun _ => True) (fun K L w => ∃ A k c, VisS B n K mb sb ob A k c (addS S0 L) pos w) where
  step := by
    rintro K L s w hs _ ⟨A, k, c, h⟩
    refine (goes_any B n K mb sb ob A k c _ pos s w hn hs h).mono ?_
    rintro e w' ⟨rfl, h1, h2, h3⟩
    exact ⟨rfl, by rw [addS_snoc]; exact h1, h2, h3⟩
  ent := enters_of Try.func62 (by kernel_rfl) rfl
  grow := by rintro K L w w' ⟨A, k, c, h⟩ hb; exact ⟨A, k, c, h.step hb⟩
  weak := by rintro K K' L w ⟨A, k, c, h⟩ hk; exact ⟨A, k, c, h.weak hk⟩
  bnd := by rintro K L w b ⟨A, k, c, h⟩ hk; exact (h.far b hk).1
/-- behind a state's being taken off the queue -/
theorem VisS.popped {B n : Nat} {mb sb ob kq cq pos g off : Nat} {S : List St} {s : St} {wb : World} {K : Nat → Prop} (h : VisS B n K mb sb ob (some ⟨g, off, none⟩) kq cq S pos wb) (hpos : pos < S.length) {A2 : Option Addr} {c2 off2 : Nat} (h2 : A2 = some ⟨g, off2, none⟩)
    (hq : OwnQ wb (ob + 1) 63 2 A2 (kq - 1) c2 (cellsS (S.drop (pos + 1)))) :
    VisS B n (fun b => K b ∨ b = wb.heap.size) mb sb ob A2 (kq - 1) c2 S (pos + 1) ((wb.alloc (.cells #[.int .i64 (s.1 : Int), .bool s.2] 63)).setCell ⟨ob, 0, none⟩ (.slice A2 (kq - 1) c2)) := by
  have h1 := h.lt1
  have h3 := h.lt2
  have hm := h.map.lt
  have ho := h.oc.lt
  have hr := h.row rfl
  refine ⟨(h.map.alloc _).setCell (by simp; omega) _, (h.sc.alloc _).far (by simp; omega) _, (h.oc.alloc _).put 0 _, (hq.alloc _).setFar (fun g' off' e => ?_) _, h.nd, h.bnd, hpos, h.lt0, h.lt1, h.lt2, fun b hb => ?_⟩
  · rw [h2] at e; injection e with e; injection e with e; simp; omega
  · have hsz : ((wb.alloc (.cells #[.int .i64 (s.1 : Int), .bool s.2] 63)).setCell ⟨ob, 0, none⟩ (.slice A2 (kq - 1) c2)).heap.size = wb.heap.size + 1 := by simp [World.setCell]
    rw [hsz]
    rcases hb with hb | rfl
    · obtain ⟨f1, f2, f3, f4⟩ := h.far b hb
      exact ⟨by omega, f2, f3, fun off' e => by rw [h2] at e; injection e with e; injection e with e; subst e; exact f4 off rfl⟩
    · exact ⟨by omega, by omega, by omega, fun off' e => by rw [h2] at e; injection e with e; injection e with e; omega⟩
def FloodPost (G : List (List Nat)) (Z : List Int) (xs : List Nat) (n : Nat) (w : World) (e : Ending) (w' : World) : Prop :=
  ∃ mb S, e = .returned (.map (some mb)) ∧ w.heap.size ≤ mb ∧ MapS 63 3 w' mb S.length (seenS S) ∧ S.Nodup ∧ (∀ s, s ∈ S ↔ CameS G Z xs s) ∧ (∀ s, s ∈ S → s.1 < n) ∧ Below w.heap.size w w'
/-- the states begun at: of the first k points -/
def startL (Z : List Int) (xs : List Nat) (k : Nat) : List St := ((xs.take k).filter fun a => ! zB Z a).map fun a => (a, true)
theorem startL_in {Z : List Int} {xs : List Nat} {k : Nat} (h : k < xs.length) (hz : zB Z (nth xs k) = true) : startL Z xs (k + 1) = startL Z xs k := by
  unfold startL
  rw [List.take_succ_eq_append_getElem h, List.filter_append, List.map_append, ← nth_eq h]
  simp [hz]
theorem startL_out {Z : List Int} {xs : List Nat} {k : Nat} (h : k < xs.length) (hz : zB Z (nth xs k) = false) : startL Z xs (k + 1) = startL Z xs k ++ [(nth xs k, true)] := by
  unfold startL
  rw [List.take_succ_eq_append_getElem h, List.filter_append, List.map_append, ← nth_eq h]
  simp [hz]
theorem cellsS_at {S : List St} {pos : Nat} (h : pos < S.length) : cellsS (S.drop pos) = .int .i64 ((nth S pos).1 : Int) :: .bool (nth S pos).2 :: cellsS (S.drop (pos + 1)) := by
  rw [List.drop_eq_getElem_cons h, ← nth_eq h]; rfl

set_option maxRecDepth 100000 in
set_option maxHeartbeats 1600000 in
theorem flood_any (G : List (List Nat)) (Z : List Int) (A B1 D E X : Option Addr) (n k1 k2 c1 c2 c3 c4 m d : Nat) (xs : List Nat) (w : World) (hv : View w G Z A B1 D E n k1 k2) (hG : G.length = n) (hg : GoodG G) (hx : Sl eN w X m xs) (hxn : ∀ x, x ∈ xs → x < n) (hn : n * 64 ≤ 140737488351232) :
    Calls Try.prog 39 #[.agg #[.slice A n c1, .slice B1 n c2, .slice D k1 c3, .slice E k2 c4], .slice X m d] w (FloodPost G Z xs n w) := by
  obtain ⟨wa, hwa⟩ : ∃ wa : World, wa = w := ⟨_, rfl⟩
  subst hwa
  have hxb := hx.big
  have hmm := fun (w : World) => run_makeMap (P := Try.prog) 60 w
  have hM := MapS.made (wa.alloc (.cells #[.slice A n c1, .slice B1 n c2, .slice D k1 c3, .slice E k2 c4] 57)) 63 3
  have hR : RowC (wa.alloc (.cells #[.slice A n c1, .slice B1 n c2, .slice D k1 c3, .slice E k2 c4] 57)) wa.heap.size 57 [.slice A n c1, .slice B1 n c2, .slice D k1 c3, .slice E k2 c4] := RowC.new wa 57 [.slice A n c1, .slice B1 n c2, .slice D k1 c3, .slice E k2 c4]
  have hB0 : Below wa.heap.size wa (wa.alloc (.cells #[.slice A n c1, .slice B1 n c2, .slice D k1 c3, .slice E k2 c4] 57)) := (Below.refl _ _).alloc (Nat.le_refl _) _
  have hV : VisS wa.heap.size n (fun b => b = wa.heap.size) (wa.heap.size + 1) (wa.heap.size + 1 + 1) (wa.heap.size + 1 + 1 + 1) none 0 0 [] 0 ((((wa.alloc (.cells #[.slice A n c1, .slice B1 n c2, .slice D k1 c3, .slice E k2 c4] 57)).alloc (.map #[] 0)).alloc (.cells #[.map (some (wa.heap.size + 1))] 60)).alloc (.cells #[.slice none 0 0] 80)) := by
    rw [show (wa.alloc (.cells #[.slice A n c1, .slice B1 n c2, .slice D k1 c3, .slice E k2 c4] 57)).heap.size = wa.heap.size + 1 from by simp] at hM
    refine ⟨((hM.alloc _).alloc _).congr fun x => (seenS_out (by simp)).symm, ?_, ?_, OwnQ.nil _ _ _ _, List.nodup_nil, by simp, by simp, by omega, by omega, by omega, fun b hb => ⟨by subst hb; simp; omega, by omega, by omega, by simp⟩⟩
    · have := (RowC.new ((wa.alloc (.cells #[.slice A n c1, .slice B1 n c2, .slice D k1 c3, .slice E k2 c4] 57)).alloc (.map #[] 0)) 60 [.map (some (wa.heap.size + 1))]).alloc (.cells #[.slice none 0 0] 80)
      simpa using this
    · have := RowC.new (((wa.alloc (.cells #[.slice A n c1, .slice B1 n c2, .slice D k1 c3, .slice E k2 c4] 57)).alloc (.map #[] 0)).alloc (.cells #[.map (some (wa.heap.size + 1))] 60)) 80 [.slice none 0 0]
      simpa using this
  have hRx := ((hR.alloc (.map #[] 0)).alloc (.cells #[.map (some (wa.heap.size + 1))] 60)).alloc (.cells #[.slice none 0 0] 80)
  have hBx := ((hB0.alloc (by simp) (.map #[] 0)).alloc (by simp; omega) (.cells #[.map (some (wa.heap.size + 1))] 60)).alloc (by simp; omega) (.cells #[.slice none 0 0] 80)
  have HV := Lib.hid (And.intro hV (And.intro hRx hBx)); clear hV hM hR hB0 hRx hBx
  have HI := Lib.hid (And.intro hG (And.intro hg (And.intro hv (And.intro hx hxn)))); clear hG hg hv hx hxn
  go_enter Try.func39, Try.ntmps39
  go_wp2_with fail
  generalize (((wa.alloc (.cells #[.slice A n c1, .slice B1 n c2, .slice D k1 c3, .slice E k2 c4] 57)).alloc (.map #[] 0)).alloc (.cells #[.map (some (wa.heap.size + 1))] 60)).alloc (.cells #[.slice none 0 0] 80) = wx at *
  generalize hps : wa.heap.size = p at *
  go_loopw [15] (fun i wr => ∃ (k k' c' : Nat) (A' : Option Addr), i = .int .i64 (k : Nat) ∧ k ≤ m ∧ VisS p n (fun b => b = p) (p + 1) (p + 1 + 1) (p + 1 + 1 + 1) A' k' c' (addS [] (startL Z xs k)) 0 wr ∧ RowC wr p 57 [.slice A n c1, .slice B1 n c2, .slice D k1 c3, .slice E k2 c4] ∧ Below p wa wr) (fun i _ => m - (intOf i).toNat)
  case atStart => exact ⟨0, 0, 0, none, rfl, Nat.zero_le _, HV.out.1, HV.out.2.1, HV.out.2.2⟩
  case round =>
    obtain ⟨k, k', c', A', rfl, hk, hvis, hrow, hbel⟩ := hrel
    obtain ⟨wb, hwb⟩ : ∃ wb : World, wb = wr := ⟨_, rfl⟩
    subst hwb
    by_cases hlt : k < m
    · obtain ⟨b, off, rfl, hb, hc⟩ := (HI.out.2.2.2.1.below (Nat.le_of_eq hps) hbel).at' (by omega)
      have g1 := hc k hlt
      have hkl : k < xs.length := by rw [HI.out.2.2.2.1.len]; exact hlt
      have v0 := hrow.cell 0
      have v1 := hrow.cell 1
      have v2 := hrow.cell 2
      have v3 := hrow.cell 3
      have hgiv := (HI.out.2.2.1.below (Nat.le_of_eq hps) hbel).giv
      have hsn := HI.out.2.2.2.2 _ (nth_mem hkl)
      have hs1 := startL_in (Z := Z) hkl
      have hs2 := startL_out (Z := Z) hkl
      generalize nth xs k = x at *
      have HX := Lib.hid (And.intro hvis (And.intro hrow (And.intro hbel (And.intro hsn (And.intro hs1 hs2)))))
      clear hvis hrow hbel hsn hs1 hs2 hc hkl
      go_wp2_with fail
      refine (has_I D k1 c3 _ _ _ hgiv).mono ?_
      rintro e w2 ⟨rfl, hb2⟩
      have hv2 := (HX.out.1.step hb2).weak (K' := fun b => b = p) (fun b h => .inl h)
      have hr2 := HX.out.2.1.below' hb2
      have hbe2 := HX.out.2.2.1.trans (hb2.mono (by have := HX.out.2.1.lt; omega))
      clear v0 v1 v2 v3 g1 hgiv hb2
      cases hz : zB Z x with
      | true =>
        rw [show decide ((x : Int) ∈ Z) = true from hz]
        have H2 := Lib.hid (And.intro hv2 (And.intro hr2 (And.intro hbe2 (HX.out.2.2.2.2.1 hz)))); clear hv2 hr2 hbe2
        go_wp2_with fail
        exact ⟨⟨k + 1, k', c', A', by go_num, by omega, by rw [H2.out.2.2.2]; exact H2.out.1, H2.out.2.1, H2.out.2.2.1⟩, by simp [intOf]; omega⟩
      | false =>
        rw [show decide ((x : Int) ∈ Z) = false from hz]
        have H2 := Lib.hid (And.intro hv2 (And.intro hr2 (And.intro hbe2 (HX.out.2.2.2.2.2 hz)))); clear hv2 hr2 hbe2
        go_wp2_with fail
        refine (goes_any p n (fun b => b = p) (p + 1) (p + 1 + 1) (p + 1 + 1 + 1) A' k' c' _ 0 (x, true) _ hn HX.out.2.2.2.1 H2.out.1).mono ?_
        rintro e w3 ⟨rfl, ⟨A3, k3, c3', hv3⟩, hb3, hk3⟩
        have hr3 : RowC w3 p 57 [.slice A n c1, .slice B1 n c2, .slice D k1 c3, .slice E k2 c4] := (hk3 p rfl).trans H2.out.2.1
        have hbe3 := H2.out.2.2.1.trans hb3
        rw [← addS_snoc, ← H2.out.2.2.2] at hv3
        have H3 := Lib.hid (And.intro hv3 (And.intro hr3 hbe3)); clear hv3 hr3 hbe3 hb3 hk3
        go_wp2_with fail
        exact ⟨⟨k + 1, k3, c3', A3, by go_num, by omega, H3.out.1, H3.out.2.1, H3.out.2.2⟩, by simp [intOf]; omega⟩
    · obtain rfl : k = m := by omega
      have hfl : Fl G Z xs (addS [] (startL Z xs k)) 0 := by
        unfold startL
        rw [take_all (by rw [HI.out.2.2.2.1.len]; exact Nat.le_refl _)]
        exact Fl.begin
      have HX := Lib.hid (And.intro hvis (And.intro hrow (And.intro hbel hfl)))
      clear hvis hrow hbel hfl
      go_wp2_with fail
      go_loopg [10] (2 * n) (fun gg _ wr => ∃ (pos k' c' : Nat) (A' : Option Addr) (S : List St), 2 * n ≤ gg + pos ∧ Aside (VisS p n (fun b => b = p) (p + 1) (p + 1 + 1) (p + 1 + 1 + 1) A' k' c' S pos wr ∧ RowC wr p 57 [.slice A n c1, .slice B1 n c2, .slice D k1 c3, .slice E k2 c4] ∧ Below p wa wr ∧ Fl G Z xs S pos))
      case atStart => exact ⟨0, k', c', A', _, by omega, HX.out⟩
      case round =>
        obtain ⟨pos, kq, cq, Aq, S, hgg, hA⟩ := hrel
        clear HX
        have hA := Lib.hid hA.out
        obtain ⟨wb, hwb⟩ : ∃ wb : World, wb = wr := ⟨_, rfl⟩
        subst hwb
        have r0 := hA.out.1.oc.cell 0
        have hkq := hA.out.1.k_eq
        have hsz := hA.out.1.size_le
        have hple := hA.out.1.pos_le
        by_cases hpos : pos < S.length
        · have hk0 : 0 < kq := by omega
          have hk1 : (0 : Int) < (kq : Nat) := by omega
          obtain ⟨g, off, rfl, hgb, hgl, hkc, hcell, hfr⟩ := hA.out.1.oo.cells (by omega)
          have g0 := hcell 0 (by omega)
          have g1 := hcell 1 (by omega)
          rw [cellsS_at hpos] at g0 g1
          replace g0 : wb.cell? ⟨g, off, none⟩ = some (.int .i64 ((nth S pos).1 : Int)) := g0
          replace g1 : wb.cell? ⟨g, off + 1, none⟩ = some (.bool (nth S pos).2) := g1
          have hsS := nth_mem hpos
          have hsn := hA.out.1.bnd _ hsS
          have hnx := hA.out.2.2.2.step hpos (by rw [HI.out.1]; exact hA.out.1.bnd)
          have hpop := hA.out.1.oo.pop hk0
          rw [cellsS_at hpos, show (∀ (a b : Value) (l : List Value), (a :: b :: l).drop 2 = l) from fun _ _ _ => rfl] at hpop
          generalize hs : nth S pos = s at *
          have hoc := hA.out.1.oc.alloc (.cells #[.int .i64 (s.1 : Int), .bool s.2] 63)
          have ra := hoc.cell 0
          have fa := hoc.frozen 0
          clear hoc
          have HQ := Lib.hid (And.intro hsn (And.intro hnx (And.intro hpop (And.intro hs (And.intro hkq (And.intro hsz (And.intro hple hpos)))))))
          have hv := HI.out.2.2.1
          have hGl := HI.out.1
          have hgd := HI.out.2.1
          have hsl : s.1 < n := hsn
          obtain ⟨hin1, hin2⟩ := next_lt hgd (p := s.1) (by rw [hGl]; exact hsl)
          obtain ⟨A2, cq2, hq2, hdis⟩ : ∃ A2 cq2, OwnQ wb (p + 1 + 1 + 1 + 1) 63 2 A2 (kq - 1) cq2 (cellsS (S.drop (pos + 1))) ∧ ((cq = 1 ∧ kq = 1 ∧ A2 = some ⟨g, off, none⟩ ∧ cq2 = 0) ∨ (¬ cq = 1 ∧ A2 = some ⟨g, off + 2, none⟩ ∧ cq2 = cq - 1)) := by
            by_cases hc1 : cq = 1
            · rw [if_pos hc1] at hpop
              exact ⟨_, _, hpop, .inl ⟨hc1, by omega, rfl, by omega⟩⟩
            · rw [if_neg hc1] at hpop
              exact ⟨_, _, hpop, .inr ⟨hc1, by simp [Addr.add_lit], rfl⟩⟩
          have hA2 : ∃ off2, A2 = some ⟨g, off2, none⟩ := by rcases hdis with ⟨_, _, e, _⟩ | ⟨_, e, _⟩ <;> exact ⟨_, e⟩
          obtain ⟨off2, hA2⟩ := hA2
          have hW := hA.out.1.popped (s := s) hpos hA2 hq2
          have hRW : RowC ((wb.alloc (.cells #[.int .i64 (s.1 : Int), .bool s.2] 63)).setCell ⟨p + 1 + 1 + 1, 0, none⟩ (.slice A2 (kq - 1) cq2)) p 57 [.slice A n c1, .slice B1 n c2, .slice D k1 c3, .slice E k2 c4] := (hA.out.2.1.alloc _).far (by simp; omega) _
          have hQW : RowC ((wb.alloc (.cells #[.int .i64 (s.1 : Int), .bool s.2] 63)).setCell ⟨p + 1 + 1 + 1, 0, none⟩ (.slice A2 (kq - 1) cq2)) wb.heap.size 63 [.int .i64 (s.1 : Int), .bool s.2] := (RowC.new wb _ _).far (by have := hA.out.1.oc.lt; simp; omega) _
          have hBW : Below p wa ((wb.alloc (.cells #[.int .i64 (s.1 : Int), .bool s.2] 63)).setCell ⟨p + 1 + 1 + 1, 0, none⟩ (.slice A2 (kq - 1) cq2)) := (hA.out.2.2.1.alloc (Nat.le_of_lt hA.out.2.1.lt) _).setCell (p := ⟨p + 1 + 1 + 1, 0, none⟩) (by simp; omega) _
          have v0 := hRW.cell 0
          have v1 := hRW.cell 1
          have v2 := hRW.cell 2
          have v3 := hRW.cell 3
          have t0 := hQW.cell 0
          have t1 := hQW.cell 1
          have hR0 := hA.out.2.1.alloc (.cells #[.int .i64 (s.1 : Int), .bool s.2] 63)
          have hQ0 := RowC.new wb 63 [.int .i64 (s.1 : Int), .bool s.2]
          have v0' := hR0.cell 0
          have v1' := hR0.cell 1
          have v2' := hR0.cell 2
          have v3' := hR0.cell 3
          have t0' := hQ0.cell 0
          have t1' := hQ0.cell 1
          simp only [List.getElem?_cons_zero, List.getElem?_cons_succ] at v0 v1 v2 v3 t0 t1 v0' v1' v2' v3' t0' t1'
          clear hR0 hQ0
          have HW := Lib.hid (And.intro hW (And.intro hRW (And.intro hBW (And.intro hv (And.intro hin1 (And.intro hin2 hsl))))))
          clear hsn hnx hpop hs hcell hfr hsS hkq hsz hple hpos hW hRW hQW hBW hq2 hA2 hv hGl hgd hin1 hin2 hsl
          rcases hdis with ⟨rfl, rfl, rfl, rfl⟩ | ⟨hc1, rfl, rfl⟩ <;> (
            go_wp2_with fail
            refine (next_any (clo_reach p n (p + 1) (p + 1 + 1) (p + 1 + 1 + 1) (pos + 1) S hn) G Z A B1 D E k1 k2 c1 c2 c3 c4 s HW.out.2.2.2.2.2.2 (by rw [← HI.out.1]; exact HW.out.2.2.2.2.1) (by rw [← HI.out.1]; exact HW.out.2.2.2.2.2.1) (fun b => b = p ∨ b = wb.heap.size) [] _ wa HW.out.2.2.2.1 (Nat.le_of_eq hps) ?_ HW.out.2.2.1 ⟨_, _, _, HW.out.1⟩ (fun _ _ => trivial)).mono ?_
            · have h1 := HW.out.2.2.1.size; rw [hps] at h1; exact h1
            · rintro e w9 ⟨rfl, ⟨A9, k9, c9, hv9⟩, hb9, hk9⟩
              have hr9 : RowC w9 p 57 [.slice A n c1, .slice B1 n c2, .slice D k1 c3, .slice E k2 c4] := (hk9 p (.inl rfl)).trans HW.out.2.1
              have hbe9 := HW.out.2.2.1.trans hb9
              rw [List.nil_append] at hv9
              have H9 := Lib.hid (And.intro (hv9.weak (K' := fun b => b = p) fun b h => .inl h) (And.intro hr9 hbe9)); clear hv9 hr9 hbe9 hb9 hk9
              go_wp2_with fail
              go_roundg (2 * n - (pos + 1))
              case measure => have := HQ.out.2.2.2.2.1; have := HQ.out.2.2.2.2.2.1; have := HQ.out.2.2.2.2.2.2.2; omega
              case rel => exact ⟨pos + 1, k9, c9, A9, _, by omega, (show Aside _ from ⟨H9.out.1, H9.out.2.1, H9.out.2.2, HQ.out.2.1⟩)⟩)
        · have hk0 : kq = 0 := by omega
          subst hk0
          have hpe : pos = S.length := by omega
          have hfl := hA.out.2.2.2
          rw [hpe] at hfl
          have hdn := hfl.done (by rw [HI.out.1]; exact hA.out.1.bnd)
          have rs := hA.out.1.sc.cell 0
          have HD := Lib.hid (And.intro hdn hpe); clear hdn hfl hpe hkq hsz hple hpos
          go_wp2_with fail
          go_ret
          exact ⟨p + 1, S, rfl, by omega, hA.out.1.map, hA.out.1.nd, HD.out.1, hA.out.1.bnd, by rw [hps]; exact hA.out.2.2.1⟩
end Go.Proofs.Ytaibdlnolpbpiaa
/- sep.Reach, walked: the points of which some tell something. Conditions: the parents and the points within Go's bound. -/
namespace Go.Proofs.Ytaibdlnolpbpiaa
open Go.RowKit

/-- the points told of -/
noncomputable def toldL (G : List (List Nat)) (Z : List Int) (xs : List Nat) : List Nat := ptsOf G.length fun x => (∃ u, CameS G Z xs (x, u)) ∧ zB Z x = false
theorem asc_castL {l : List Nat} (h : Rising l) : Asc cmpI (castL l) := by
  unfold castL Asc
  rw [List.pairwise_map]
  exact h.imp fun h => by unfold cmpI; split <;> omega
def TellsPost (w : World) (Ps : List (List Int)) (a given : List Int) (e : Ending) (w' : World) : Prop :=
  Below w.heap.size w w' ∧ ∃ C k d, e = .returned (.tuple #[.slice C k d, .int .i64 (lookE Ps given a)]) ∧ (lookE Ps given a ≠ 0 → C = none ∧ k = 0 ∧ d = 0) ∧
    (lookE Ps given a = 0 → OwnR (Value.int .i64) w' (w.heap.size + 1) 3 C k d (castL (toldL (toG Ps) given (a.map Int.toNat))))
/-- what of a map of states is still to come, and what was taken -/
structure Rem (Z : List Int) (S : List St) (left : Lit → Bool) (cnt : Nat) (L : List Int) : Prop where
  sub : ∀ l, left l = true → ∃ s, s ∈ S ∧ okS s ∧ kS s = l
  cov : ∀ s, s ∈ S → okS s → zB Z s.1 = false → left (kS s) = true ∨ (s.1 : Int) ∈ L
  low : ∀ x, x ∈ L → ∃ s, s ∈ S ∧ x = (s.1 : Int) ∧ zB Z s.1 = false
  len : L.length + cnt ≤ S.length
section
variable {Z : List Int} {S : List St} {left : Lit → Bool} {cnt cnt' : Nat} {L : List Int} {s : St}
theorem Rem.struck {t : St} (ht : okS t) (hs : okS s) (h : left (kS t) = true) : (left (kS t) && !(kS t).sameKey (kS s)) = true ∨ t = s := by
  rw [h, Bool.true_and]
  cases hk : (kS t).sameKey (kS s)
  · exact .inl rfl
  · exact .inr (kS_inj ht hs (WideAt.sameKey_eq hk))
theorem Rem.skip (h : Rem Z S left cnt L) (hc : cnt' < cnt) (hok : okS s) (hz : zB Z s.1 = true) : Rem Z S (fun z => left z && !z.sameKey (kS s)) cnt' L := by
  refine ⟨fun l hl => h.sub l (by simp at hl; exact hl.1), fun t ht hokt hzt => ?_, h.low, by have := h.len; omega⟩
  rcases h.cov t ht hokt hzt with h1 | h1
  · rcases Rem.struck hokt hok h1 with h2 | h2
    · exact .inl h2
    · subst h2; rw [hz] at hzt; cases hzt
  · exact .inr h1
theorem Rem.take (h : Rem Z S left cnt L) (hc : cnt' < cnt) (hok : okS s) (hs : s ∈ S) (hz : zB Z s.1 = false) : Rem Z S (fun z => left z && !z.sameKey (kS s)) cnt' (L ++ [(s.1 : Int)]) := by
  refine ⟨fun l hl => h.sub l (by simp at hl; exact hl.1), fun t ht hokt hzt => ?_, fun x hx => ?_, by have := h.len; simp; omega⟩
  · rcases h.cov t ht hokt hzt with h1 | h1
    · rcases Rem.struck hokt hok h1 with h2 | h2
      · exact .inl h2
      · subst h2; exact .inr (by simp)
    · exact .inr (List.mem_append_left _ h1)
  · rcases List.mem_append.1 hx with h1 | h1
    · exact h.low x h1
    · rw [List.mem_singleton] at h1; exact ⟨s, hs, h1, hz⟩
theorem Rem.done (h : Rem Z S left cnt L) (hl : ∀ l, left l = false) (hok : ∀ s, s ∈ S → okS s) (x : Int) : x ∈ L ↔ ∃ s, s ∈ S ∧ x = (s.1 : Int) ∧ zB Z s.1 = false := by
  refine ⟨h.low x, ?_⟩
  rintro ⟨s, hs, rfl, hz⟩
  rcases h.cov s hs (hok s hs) hz with h1 | h1
  · rw [hl] at h1; cases h1
  · exact h1

theorem Rem.begin {D : DataW Unit} (hq : ∀ kl, Maps.has D kl = (liftS (seenS S) kl).isSome) (hs : Maps.size D ≤ S.length) : Rem Z S (Maps.has D) (Maps.size D) [] := by
  refine ⟨fun l hl => ?_, fun s hsS hok _ => .inl ?_, fun x hx => by simp at hx, by simpa using hs⟩
  · rw [hq] at hl
    obtain ⟨s, hok, rfl⟩ := liftS_some hl
    rw [liftS_kS _ hok] at hl
    refine ⟨s, ?_, hok, rfl⟩
    by_cases h : s ∈ S
    · exact h
    · rw [seenS_out h] at hl; cases hl
  · rw [hq, liftS_kS _ hok, seenS_in hsS]; rfl
end
section
variable (w : World) {ops : Array Oper} {rest : List Oper} {o : Oper} {a : Act} {Q : Exit → Act → World → Prop}
theorem wpList_next_S (hg : o.guard = none) (it : Operand) (hop : o.op = Op.next it false) (b r n : Nat) (D : DataW Unit) (left : Lit → Bool) (cnt : Nat) (hit : a.eval it = .pointer (some ⟨r, 0, none⟩)) (h : w.ranges Try.prog 63 (plainElem Try.prog 3) b r n D left cnt)
    {S : List St} (hsub : ∀ l, left l = true → ∃ s, s ∈ S ∧ okS s ∧ kS s = l) (hDone : cnt = 0 → (∀ kl, left kl = false) → wpList Try.prog ops Q rest (a.put o.dst (.tuple #[.bool false])) w)
    (hMore : ∀ (p : Nat) (u : Bool) (c : Int) (w' : World) (cnt' : Nat), ((p, u) : St) ∈ S → okS (p, u) → w'.ranges Try.prog 63 (plainElem Try.prog 3) b r n D (fun z => left z && !z.sameKey (kS (p, u))) cnt' → cnt' < cnt →
      w.grownBy w' (some r) → w'.heap.size = w.heap.size → (Instr.entry (.pointer (some ⟨r, 0, none⟩))).run Try.prog w' = .ok (.tuple #[.agg #[.int .i64 (p : Int), .bool u], .int .i64 c]) w' → wpList Try.prog ops Q rest (a.put o.dst (.tuple #[.bool true, .agg #[.int .i64 (p : Int), .bool u], .int .i64 c])) w') :
    wpList Try.prog ops Q (o :: rest) a w := by
  refine wpList_next_ranges w hg it hop 63 law63 (plainElem Try.prog 3) (fun x : Int × Bool => .agg #[.int .i64 x.1, .bool x.2]) (Value.int .i64) (fun key kl h => keyOf_state h) (fun v y h => by obtain ⟨c, rfl, _⟩ := plainElem_int_inv Try.underlying3 h; exact ⟨c, rfl⟩) b r n D left cnt hit h hDone ?_
  intro x c kl y w' cnt' hkey hlk hv hat hrg hlt hgr hsz hen
  obtain ⟨s, hs, hok, rfl⟩ := hsub kl hlk
  have he := law63.inj hkey (keyOf_sV hok)
  obtain ⟨x1, x2⟩ := x
  obtain ⟨p, u⟩ := s
  simp at he
  obtain ⟨rfl, rfl⟩ := he
  exact hMore p x2 c w' cnt' hs hok hrg hlt hgr hsz hen
end
theorem below_of_none {a b : World} (h : a.grownBy b none) : Below a.heap.size a b := ⟨h.os, h.tape, h.output, h.size, fun i hi => h.block i hi (by simp)⟩

set_option maxRecDepth 100000 in
set_option maxHeartbeats 800000 in
theorem tells_any (A B0 C0 : Option Addr) (n c m1 d1 m2 d2 : Nat) (Ps : List (List Int)) (a given : List Int) (w : World) (h : Rows (Value.int .i64) w A n Ps) (ha : Sl (Value.int .i64) w B0 m1 a) (hg : Sl (Value.int .i64) w C0 m2 given)
    (hn : n * 64 ≤ 140737488351232) (hgb : m2 * 8 ≤ 140737488355328) : Calls Try.prog 15 #[.slice A n c, .slice B0 m1 d1, .slice C0 m2 d2] w (TellsPost w Ps a given) := by
  obtain ⟨wa, hwa⟩ : ∃ wa : World, wa = w := ⟨_, rfl⟩
  subst hwa
  have HL := Lib.hid (And.intro h.len (And.intro ha.len hg.len))
  go_enter Try.func15, Try.ntmps15
  go_wp2_with fail
  refine (look_any A C0 B0 n c m2 d2 m1 d1 Ps given a _ h hg ha (by omega) hgb).mono ?_
  rintro e w1 ⟨hb1, A1, na, ca, B1, nb, cb, C1, k1, c1, D1, k2, c2, rfl, hv⟩
  have ha1 := ha.below (Nat.le_refl _) hb1
  clear h ha hg
  by_cases hE : lookE Ps given a = 0
  · obtain ⟨e1, e2, e3, e4, hvw⟩ := hv hE
    clear hv
    have e1 := e1.symm
    have e2 := e2.symm
    have e3 := e3.symm
    have e4 := e4.symm
    subst e1 e2 e3 e4
    have hv := hvw
    clear hvw
    rw [hE]
    obtain ⟨hck, hin1, hin2⟩ := lookE_inv hE
    have hga := inRow_iff.1 hin2
    have han := ha1.toNat (fun p hp => (hga p hp).1)
    have hlt : ∀ x, x ∈ a.map Int.toNat → x < n := fun x hx => by
      obtain ⟨y, hy, rfl⟩ := List.mem_map.1 hx
      have := hga y hy
      have := HL.out.1
      omega
    have hgood := good_toG (checkP_ok hck).1
    have hGl : (toG Ps).length = n := by rw [toG_length]; exact HL.out.1
    have H1 := ((Held.start (P := fun w => View w (toG Ps) given A B1 C1 D1 n k1 k2) w1 hv).sl han).new 57 [.slice A n c, .slice B1 n cb, .slice C1 k1 c1, .slice D1 k2 c2]
    have hv1 := H1.has.2.2
    have ha2 := H1.has.2.1
    have v0 := H1.has.1.cell 0
    have v1 := H1.has.1.cell 1
    have v2 := H1.has.1.cell 2
    have v3 := H1.has.1.cell 3
    simp only [List.getElem?_cons_zero, List.getElem?_cons_succ] at v0 v1 v2 v3
    have HF := Lib.hid (And.intro hb1 (And.intro hE (And.intro hGl (And.intro hgood hlt)))); clear hb1 hv ha1 hE hck hin1 hin2 hga han hlt hgood hGl
    have HH := Lib.hid H1; clear H1
    go_wp2_with fail
    refine (flood_any (toG Ps) given A B1 C1 D1 B0 n k1 k2 c cb c1 c2 m1 d1 _ _ hv1 HF.out.2.2.1 HF.out.2.2.2.1 ha2 HF.out.2.2.2.2 hn).mono ?_
    rintro e w2 ⟨mb, S, rfl, hmb, hmap, hnd, hS, hSn, hb2⟩
    have H2 := HH.out.step hb2
    obtain ⟨D, hD, hq⟩ := hmap
    have hDs := hD.size_le
    have hmlt := hD.lt
    clear hv1 ha2 v0 v1 v2 v3 hb2
    have HS := Lib.hid (And.intro hnd (And.intro hS (And.intro hSn (And.intro hq hDs)))); clear hnd hS hSn hq hDs
    have HH2 := Lib.hid H2; clear H2
    go_wp2_with (first
      | (at_range; refine wpList_range_own _ rfl _ 60 rfl 63 3 law63 Try.underlying60 _ mb S.length D rfl hD ?_; intro w3 hrg3 hg3 hs3)
      | fail)
    go_frame
    have H3 := HH2.out.step (below_of_none hg3)
    have hrem := Rem.begin (Z := given) (S := S) (fun kl => (HS.out.2.2.2.1 kl).1) HS.out.2.2.2.2
    have hbel3 : Below w2.heap.size w2 w3 := below_of_none hg3
    have HB := Lib.hid (And.intro hrem (And.intro hrg3 hbel3)); clear hrem hrg3 hbel3 H3 hg3
    generalize hr : w2.heap.size = r at *
    have hpl := HH2.out.has.1.lt
    generalize hp8 : w1.heap.size = p8 at *
    go_loopw [10] (fun o wr => ∃ (left : Lit → Bool) (cnt k c9 : Nat) (A9 : Option Addr) (L : List Int), o = .slice A9 k c9 ∧ wr.ranges Try.prog 63 (plainElem Try.prog 3) mb r S.length D left cnt ∧ OwnR (Value.int .i64) wr (r + 1) 3 A9 k c9 L ∧ Below r w2 wr ∧ Rem given S left cnt L) (fun _ wr => wr.rangeLeft mb r)
    case atStart => exact ⟨_, _, 0, 0, none, [], rfl, HB.out.2.1, OwnR.nil _ _ _ _, HB.out.2.2, HB.out.1⟩
    case round =>
      obtain ⟨left, cnt, k, c9, A9, L, rfl, hrg, how, hbel, hrem⟩ := hrel
      obtain ⟨wb, hwb⟩ : ∃ wb : World, wb = wr := ⟨_, rfl⟩
      subst hwb
      have HW := Lib.hid (And.intro how (And.intro hbel hrem)); clear how hbel hrem
      have hsub := HW.out.2.2.sub
      have hlold := Lib.hid hrg.left_eq
      go_wp2_with (first
        | (at_next; refine wpList_next_S _ rfl _ rfl mb r S.length D left cnt rfl hrg hsub (fun hc0 hl0 => ?_) (fun px u cv w4 cnt4 hps hok hrg4 hlt4 hg4 hs4 hen => ?_) <;> refine Hid.out ?_)
        | fail)
      · refine Lib.hid ?_
        clear hsub hrg
        have hbelw := HW.out.2.1
        have hmem := HW.out.2.2.done hl0 (fun s hs => by have := HS.out.2.2.1 s hs; unfold okS; omega)
        have hkS : k ≤ S.length := by have := HW.out.2.2.len; have := HW.out.1.length; omega
        have hk2 : S.length ≤ 2 * n := states_length HS.out.1 HS.out.2.2.1
        have hsl := HW.out.1.sl (by omega)
        have HM := Lib.hid (And.intro hmem (And.intro hkS hk2)); clear hmem hbelw
        have hk16 : k * 8 ≤ 140737488355328 := by omega
        clear hkS hk2 hc0 hl0
        go_wp2_with fail
        refine (of_I A9 k c9 L _ hsl hk16).mono ?_
        rintro e w7 ⟨A7, k7, c7, rfl, hs7, hk7, hb7⟩
        clear hsl
        go_wp2_with fail
        refine (list_I A7 k7 c7 L _ hs7.1 (by omega)).mono ?_
        rintro e w8 ⟨A8, c8, xs8, rfl, ho8, ha8, hm8, hb8⟩
        have hbw : Below wa.heap.size wa w8 := by
          have h1 := HF.out.1.size
          have h2 := HH.out.bel.size
          have h3 := HH2.out.bel.size
          have h4 := HW.out.2.1.size
          have h5 := hb7.size
          have h6 := HF.out.1.trans (HH2.out.bel.mono h1)
          have h7 := h6.trans (HW.out.2.1.mono (by omega))
          exact (h7.trans (hb7.mono (by omega))).trans (hb8.mono (by omega))
        have hsz8 : wa.heap.size ≤ w7.heap.size := by
          have h1 := HF.out.1.size
          have h3 := HH2.out.bel.size
          have h4 := HW.out.2.1.size
          have h5 := hb7.size
          omega
        have hxs : xs8 = castL (toldL (toG Ps) given (a.map Int.toNat)) := by
          refine Asc.ext cmpokI ha8 (asc_castL (rising_ptsOf _ _)) fun y => ?_
          rw [hm8, HM.out.1]
          unfold toldL
          constructor
          · rintro ⟨s, hs, rfl, hz⟩
            rw [mem_castL, mem_ptsOf]
            exact ⟨by rw [HF.out.2.2.1]; exact HS.out.2.2.1 s hs, ⟨s.2, (HS.out.2.1 s).1 hs⟩, hz⟩
          · intro hy
            obtain ⟨z, hz, rfl⟩ := List.mem_map.1 hy
            obtain ⟨_, ⟨u, hu⟩, hz2⟩ := mem_ptsOf.1 hz
            exact ⟨(z, u), (HS.out.2.1 _).2 hu, rfl, hz2⟩
        rw [hxs] at ho8
        have H8 := Lib.hid (And.intro ho8 (And.intro hbw hsz8)); clear ho8 hbw hxs hb8 ha8 hm8 hb7 hs7 hsz8
        go_wp2_with fail
        go_ret2
        exact ⟨H8.out.2.1, A8, k7, c8, by rw [HF.out.2.1]; rfl, fun h => absurd HF.out.2.1 h, fun _ => H8.out.1.mono (by have := H8.out.2.2; omega)⟩
      · refine Lib.hid ?_
        have hlenO := HW.out.1.length
        have hrow : ∀ g, A9 = some ⟨g, 0, none⟩ → r < g := fun g e => by
          rcases HW.out.1.at_row with h1 | ⟨g', h1, h2, _⟩
          · rw [e] at h1; cases h1
          · rw [e] at h1; injection h1 with h1; injection h1 with h1; omega
        have hk8 : (k + 1) * 8 ≤ 140737488355328 := by
          have h1 := states_length HS.out.1 HS.out.2.2.1
          have h2 := HW.out.2.2.len
          have h3 := HW.out.1.length
          omega
        have hbel4 : Below r w2 w4 := HW.out.2.1.grown hg4 (by have := HW.out.2.1.size; omega) (fun g e => by injection e with e; omega)
        have how4 : OwnR (Value.int .i64) w4 (r + 1) 3 A9 k c9 L := HW.out.1.grown hg4 (fun g e e2 => by have := hrow g e; injection e2 with e2; omega)
        have hlt4r : r < w4.heap.size := hrg4.lt
        have hb5 : Below r w2 (w4.alloc (.cells #[.int .i64 (px : Int), .bool u] 63)) := hbel4.alloc (by omega) _
        have hrg5 := hrg4.alloc (.cells #[.int .i64 (px : Int), .bool u] 63)
        have how5 := how4.alloc (.cells #[.int .i64 (px : Int), .bool u] 63)
        have hvb := HH2.out.has.1.below (B := r) hb5 (by omega)
        have hq5 := RowC.new w4 63 [.int .i64 (px : Int), .bool u]
        have hgiv := (HH2.out.has.2.2.below (Nat.le_of_eq hr) hb5).giv
        have v2 := hvb.cell 2
        have t0 := hq5.cell 0
        simp only [List.getElem?_cons_zero, List.getElem?_cons_succ] at v2 t0
        have H5 := Lib.hid (And.intro hb5 (And.intro hrg5 (And.intro how5 (And.intro hq5 (And.intro hrow (And.intro hps (And.intro hok (And.intro hlt4 hlenO))))))))
        clear hb5 hrg5 how5 hq5 hrow hps hok hlt4 hlenO hbel4 how4 hvb hrg4 hg4 hs4 hsub hrg
        have hrge := HW.out.2.2
        go_wp2_with fail
        refine (has_I C1 k1 c1 _ _ _ hgiv).mono ?_
        rintro e w6 ⟨rfl, hb6⟩
        have hbel6 : Below r w2 w6 := H5.out.1.trans (hb6.mono (by simp; omega))
        have hrg6 := H5.out.2.1.kept (below_grown hb6 none) (by simp) (by simp)
        have how6 := H5.out.2.2.1.below (Nat.le_refl _) hb6
        have hq6 := H5.out.2.2.2.1.below' hb6
        clear hb6 hgiv v2 t0
        cases hz : zB given px with
        | true =>
          rw [show decide ((px : Int) ∈ given) = true from hz]
          have H6 := Lib.hid (And.intro hrg6 (And.intro how6 (And.intro hbel6 (hrge.skip H5.out.2.2.2.2.2.2.2.1 H5.out.2.2.2.2.2.2.1 hz)))); clear hrg6 how6 hbel6 hq6 hrge
          go_wp2_with fail
          exact ⟨⟨_, _, k, c9, A9, L, rfl, H6.out.1, H6.out.2.1, H6.out.2.2.1, H6.out.2.2.2⟩, by rw [H6.out.1.left_eq, hlold.out]; exact H5.out.2.2.2.2.2.2.2.1⟩
        | false =>
          rw [show decide ((px : Int) ∈ given) = false from hz]
          have t0 := hq6.cell 0
          simp only [List.getElem?_cons_zero] at t0
          have hrem6 := hrge.take H5.out.2.2.2.2.2.2.2.1 H5.out.2.2.2.2.2.2.1 H5.out.2.2.2.2.2.1 hz
          have hlt6 := hrg6.lt
          have hos := how6.alloc (.cells #[.int .i64 (px : Int)] 3)
          have H6 := Lib.hid (And.intro hrg6 (And.intro hbel6 hrem6)); clear hrg6 hbel6 hq6 hrem6 hrge how6
          go_wp2_with (first
            | (at_builtin; refine wpList_app _ eiInt (Value.int .i64) (fun _ => rfl) rfl _ _ rfl (r + 1) _ _ _ _ rfl hos _ _ _ _ rfl (Sl.one (enc := Value.int .i64) _ _ _) (by omega) (by simp; omega) ?_)
            | fail)
          intro A7 c7 w7 ho7 hg7 hb7 hd7
          have hne : ∀ b, b ≤ r → some b ≠ (Value.slice A9 k c9).ownBlock := fun b hb e => by
            cases hA : A9 with
            | none => rw [hA] at e; cases e
            | some ad =>
              have h1 : A9 = some ⟨ad.block, 0, none⟩ := by
                rcases H5.out.2.2.1.at_row with h1 | ⟨g', h1, _⟩
                · rw [hA] at h1; cases h1
                · rw [h1] at hA ⊢; injection hA with hA; rw [← hA]
              have h2 := H5.out.2.2.2.2.1 _ h1
              rw [hA] at e
              injection e with e
              omega
          have hrg7 := (H6.out.1.alloc (.cells #[.int .i64 (px : Int)] 3)).kept hg7 (hne mb (by omega)) (hne r (Nat.le_refl _))
          have hbel7 : Below r w2 w7 := (H6.out.2.1.alloc (by omega) (.cells #[.int .i64 (px : Int)] 3)).trans (hb7.mono (Nat.le_succ _))
          have H7 := Lib.hid (And.intro hrg7 (And.intro ho7 hbel7)); clear hrg7 ho7 hbel7 hg7 hb7 hd7 hne hos t0
          go_wp2_with fail
          exact ⟨⟨_, _, k + 1, c7, A7, _, rfl, H7.out.1, H7.out.2.1, H7.out.2.2, H6.out.2.2⟩, by rw [H7.out.1.left_eq, hlold.out]; exact H5.out.2.2.2.2.2.2.2.1⟩
  · have HF := Lib.hid (And.intro hb1 hE); clear hb1 hv ha1
    go_wp2_with fail
    go_ret2
    exact ⟨HF.out.1.alloc HF.out.1.size _, none, 0, 0, rfl, fun _ => ⟨rfl, rfl, rfl⟩, fun h => absurd h hE⟩
end Go.Proofs.Ytaibdlnolpbpiaa
