/- The state of a loop that fills the cells of a table that lies in a box of the call's own, while a function of digits is gone through. No condition. -/
import Derived.Test.YtgmchedfgdgenaaTimesMath
import Derived.Test.YtgmchedfgdgenaaAll
namespace Go.Proofs.Ytgmchedfgdgenaa
open Go.RowKit

instance stable_cell {p : Addr} {v : Value} : Stable (fun w => w.cell? p = some v) := ⟨fun {w w'} hb h => by
  rcases Nat.lt_or_ge p.block w.heap.size with hlt | hge
  · exact (hb.cell hlt).trans h
  · simp [World.cell?, Array.getElem?_eq_none hge] at h⟩
theorem Held.again {w0 w : World} {P : World → Prop} (h : Held w0 P w) : Held w P w := ⟨Below.refl _ _, h.has⟩
theorem OwnR.geT {α : Type} {enc : α → Value} {w : World} {base : Nat} {e : TypeId} {A : Option Addr} {n c : Nat} {xs : List α} (h : OwnR enc w base e A n c xs) {g : Nat} (e1 : A = some ⟨g, 0, none⟩) : base ≤ g ∧ g < w.heap.size := by
  rcases h.at_row with h1 | ⟨g', h1, h2, h3⟩
  · rw [e1] at h1; cases h1
  · rw [e1] at h1; injection h1 with h1; injection h1 with h1; subst h1; exact ⟨h2, h3⟩
theorem Turn.cellT {a b : World} {S : Nat → Prop} (h : Turn a b S) {g o : Nat} (hg : g < a.heap.size) (hS : ¬ S g) : b.cell? ⟨g, o, none⟩ = a.cell? ⟨g, o, none⟩ := by
  simp only [World.cell?, h.block g hg hS]
theorem OwnR.isCells {α : Type} {enc : α → Value} {w : World} {base : Nat} {e : TypeId} {A : Option Addr} {n c : Nat} {xs : List α} (h : OwnR enc w base e A n c xs) {g : Nat} (e1 : A = some ⟨g, 0, none⟩) {o : Obj} (ho : w.heap[g]? = some o) : o.isCells = true := by
  rcases h.2 with ⟨h1, _⟩ | ⟨g', cap, cur, h1, _, hg, _⟩
  · injection h1 with h1; rw [e1] at h1; cases h1
  · injection h1 with h1
    rw [e1] at h1
    injection h1 with h1
    injection h1 with h1
    subst h1
    rw [hg] at ho
    injection ho with ho
    subst ho
    rfl
theorem OwnR.row_neT {α : Type} {enc : α → Value} {w : World} {base : Nat} {e e' : TypeId} {A : Option Addr} {n c : Nat} {xs : List α} {cs : List Value} {g : Nat} (h : OwnR enc w base e A n c xs) (e1 : A = some ⟨g, 0, none⟩) (hr : RowC w g e' cs) (hne : e ≠ e') : False := by
  rcases h.2 with ⟨h1, _⟩ | ⟨g', cap, cur, h1, _, hg, _⟩
  · injection h1 with h1; rw [e1] at h1; cases h1
  · injection h1 with h1
    rw [e1] at h1
    injection h1 with h1
    injection h1 with h1
    subst h1
    unfold RowC at hr
    rw [hg] at hr
    injection hr with hr
    injection hr with _ hr
    exact hne hr
/-- two slices that were told, put into two new boxes -/
theorem two_stored {wb W : World} {q1 q2 b1 b2 n lc m rc : Nat} {LA RA : Option Addr} {X Y : List Int} (hb : Below wb.heap.size wb W) (h1 : OwnR (Value.int .i64) W b1 3 LA n lc X) (h2 : OwnR (Value.int .i64) W b2 3 RA m rc Y)
    (r1 : RowC W q1 22 [.slice none 0 0]) (r2 : RowC W q2 22 [.slice none 0 0]) (hne : q1 ≠ q2) (g1 : wb.heap.size ≤ q1) (g2 : wb.heap.size ≤ q2) :
    Below wb.heap.size wb ((W.setCell ⟨q1, 0, none⟩ (.slice LA n lc)).setCell ⟨q2, 0, none⟩ (.slice RA m rc)) ∧ OwnR (Value.int .i64) ((W.setCell ⟨q1, 0, none⟩ (.slice LA n lc)).setCell ⟨q2, 0, none⟩ (.slice RA m rc)) b1 3 LA n lc X ∧
      OwnR (Value.int .i64) ((W.setCell ⟨q1, 0, none⟩ (.slice LA n lc)).setCell ⟨q2, 0, none⟩ (.slice RA m rc)) b2 3 RA m rc Y ∧
      RowC ((W.setCell ⟨q1, 0, none⟩ (.slice LA n lc)).setCell ⟨q2, 0, none⟩ (.slice RA m rc)) q1 22 [.slice LA n lc] ∧ RowC ((W.setCell ⟨q1, 0, none⟩ (.slice LA n lc)).setCell ⟨q2, 0, none⟩ (.slice RA m rc)) q2 22 [.slice RA m rc] :=
  ⟨(hb.setCell (p := ⟨q1, 0, none⟩) g1 _).setCell (p := ⟨q2, 0, none⟩) g2 _,
    (h1.setFar (p := ⟨q1, 0, none⟩) (fun g e h => by subst h; exact h1.row_neT e r1 (by decide)) _).setFar (p := ⟨q2, 0, none⟩) (fun g e h => by subst h; exact h1.row_neT e r2 (by decide)) _,
    (h2.setFar (p := ⟨q1, 0, none⟩) (fun g e h => by subst h; exact h2.row_neT e r1 (by decide)) _).setFar (p := ⟨q2, 0, none⟩) (fun g e h => by subst h; exact h2.row_neT e r2 (by decide)) _,
    (r1.put 0 _).far (by simpa using hne) _, (r2.far (by simpa using hne.symm) _).put 0 _⟩
/-- between two rounds: a box at pp with two lists that stay, and the cells so far -/
structure ProdLp {α : Type} (enc : α → Value) (eb ee : TypeId) (w wc : World) (pp g0 : Nat) (u1 u2 : Value) (W : World) (C : Option Addr) (t k : Nat) (xs : List α) : Prop where
  bel : Below w.heap.size w W
  tu : Turn wc W (fun x => x = pp ∨ x = g0)
  box : RowC W pp eb [u1, u2, .slice C t k]
  cells : OwnR enc W w.heap.size ee C t k xs
  at' : ∀ g, C = some ⟨g, 0, none⟩ → g = g0 ∨ wc.heap.size ≤ g
  hg : w.heap.size ≤ g0
  gp : g0 < pp
  pw : pp < wc.heap.size
section
variable {α : Type} {enc : α → Value} {eb ee : TypeId} {w wc W W6 W9 : World} {pp g0 : Nat} {u1 u2 : Value} {C : Option Addr} {t k : Nat} {xs : List α}
theorem ProdLp.below (h : ProdLp enc eb ee w wc pp g0 u1 u2 W C t k xs) {W' : World} (hb : Below W.heap.size W W') : ProdLp enc eb ee w wc pp g0 u1 u2 W' C t k xs :=
  ⟨h.bel.trans (hb.mono h.bel.size), h.tu.trans (Turn.of_below hb (fun _ => False)) (fun _ _ e => e.elim), h.box.below' hb, h.cells.below (Nat.le_refl _) hb, h.at', h.hg, h.gp, h.pw⟩
theorem ProdLp.put (h : ProdLp enc eb ee w wc pp g0 u1 u2 W C t k xs) {l : Nat} {o o' : Obj} (hl : wc.heap.size ≤ l) (hW : W.heap[l]? = some o) (ho : o.isCells = false) : ProdLp enc eb ee w wc pp g0 u1 u2 (W.putObj l o') C t k xs := by
  have hT : Turn W (W.putObj l o') (fun x => some l = some x) := Turn.of_grown (grownBy_putObj' W l o')
  have hpw := h.pw
  have hgp := h.gp
  have hhg := h.hg
  refine ⟨h.bel.grown (grownBy_putObj' W l o') (by have := h.bel.size; omega) (fun k e => by cases e; omega), h.tu.trans hT (fun x hx e => by injection e with e; omega), h.box.turn hT (fun e => by injection e with e; omega), h.cells.turn hT (fun g e1 e2 => ?_), h.at', h.hg, h.gp, h.pw⟩
  injection e2 with e2
  subst e2
  have := h.cells.isCells e1 hW
  rw [ho] at this
  cases this
theorem ProdLp.app {C' : Option Addr} {k' : Nat} {ys : List α} (h : ProdLp enc eb ee w wc pp g0 u1 u2 W C t k xs) (hb : Below W.heap.size W W6) (ho : OwnR enc W9 w.heap.size ee C' (t + 1) k' ys) (hg : W6.grownBy W9 (Value.slice C t k).ownBlock)
    (hd : (Value.slice C' (t + 1) k').ownBlock = (Value.slice C t k).ownBlock ∨ (Value.slice C' (t + 1) k').ownBlock = some W6.heap.size) (hne : ∀ g, C' = some ⟨g, 0, none⟩ → g ≠ pp) :
    KeepsOthers W (W9.setCell ⟨pp, 2, none⟩ (.slice C' (t + 1) k')) ∧ (∀ lo, pp < lo → KeepR lo wc.heap.size W (W9.setCell ⟨pp, 2, none⟩ (.slice C' (t + 1) k'))) ∧
      ProdLp enc eb ee w wc pp g0 u1 u2 (W9.setCell ⟨pp, 2, none⟩ (.slice C' (t + 1) k')) C' (t + 1) k' ys := by
  have h6 := h.below hb
  have hpw := h.pw
  have hgp := h.gp
  have hhg := h.hg
  have hT9 : Turn W6 W9 (fun x => (Value.slice C t k).ownBlock = some x) := Turn.of_grown hg
  have hown : ∀ g, (Value.slice C t k).ownBlock = some g → g = g0 ∨ wc.heap.size ≤ g := fun g e1 => h6.at' g (h6.cells.block_eq e1)
  have hrow : ∀ (j : Nat) (o : Obj), (Value.slice C t k).ownBlock = some j → W6.heap[j]? = some o → o.isCells = true := fun j o e1 e2 => h6.cells.isCells (h6.cells.block_eq e1) e2
  have hs6 := h6.tu.size
  have hs9 := hT9.size
  have hsb := hb.size
  have box9 : RowC W9 pp eb [u1, u2, .slice C t k] := h6.box.turn hT9 (fun e => by have := hown pp e; omega)
  have hko : KeepsOthers W W6 := ⟨hb.size, fun k o hk _ => (hb.block k (Array.getElem?_eq_some_iff.1 hk).1).trans hk⟩
  have hsz : (W9.setCell ⟨pp, 2, none⟩ (.slice C' (t + 1) k')).heap.size = W9.heap.size := by simp [World.setCell]
  refine ⟨hko.trans ((KeepsOthers.of_grownBy hg hrow).trans (KeepsOthers.setCell _ _ _)), fun lo hlo => ⟨by omega, fun b h1 h2 => ?_⟩, ?_⟩
  · refine (Below.heap_setCell W9 _ _ b (by show b ≠ pp; omega)).trans ((hT9.block b ?_ ?_).trans (hb.block b ?_))
    · have := h.tu.size; omega
    · intro e; have := hown b e; omega
    · have := h.tu.size; omega
  · refine ⟨?_, ?_, ?_, ?_, ?_, hhg, hgp, hpw⟩
    · refine ((h6.bel.trans (hT9.below h6.bel.size (fun x hx e => by have := hown x e; have := h.bel.size; have := h.tu.size; omega)))).setCell (p := ⟨pp, 2, none⟩) (by show w.heap.size ≤ pp; omega) _
    · exact (h6.tu.trans hT9 (fun x hx e => by have := hown x e; omega)).setCell ⟨pp, 2, none⟩ (fun _ => .inl rfl) _
    · exact box9.put 2 _
    · exact ho.setFar (fun g e1 => hne g e1) _
    · intro g e1
      have h1 : (Value.slice C' (t + 1) k').ownBlock = some g := by rw [e1]; rfl
      rcases hd with hd | hd
      · exact hown g (by rw [← hd]; exact h1)
      · rw [h1] at hd; injection hd with hd; omega
theorem ProdLp.grown (h : ProdLp enc eb ee w wc pp g0 u1 u2 W C t k xs) (hg : W.grownBy W9 (Value.slice C t k).ownBlock) : RowC W9 pp eb [u1, u2, .slice C t k] ∧ ∀ g o v, g ≠ g0 → g < wc.heap.size → W.cell? ⟨g, o, none⟩ = some v → W9.cell? ⟨g, o, none⟩ = some v := by
  have hpw := h.pw
  have hgp := h.gp
  have hT9 : Turn W W9 (fun x => (Value.slice C t k).ownBlock = some x) := Turn.of_grown hg
  have hown : ∀ g, (Value.slice C t k).ownBlock = some g → g = g0 ∨ wc.heap.size ≤ g := fun g e1 => h.at' g (h.cells.block_eq e1)
  refine ⟨h.box.turn hT9 (fun e => by have := hown pp e; omega), fun g o v h1 h2 h3 => ?_⟩
  rw [hT9.cellT (by have := h.tu.size; omega) (fun e => by have := hown g e; omega)]
  exact h3
end
theorem Sl.putT {α : Type} [Inhabited α] {enc : α → Value} {w : World} {A : Option Addr} {n : Nat} {xs : List α} (h : Sl enc w A n xs) {l : Nat} {o o' : Obj} (hW : w.heap[l]? = some o) (ho : o.isCells = false) : Sl enc (w.putObj l o') A n xs :=
  ⟨h.len, h.big, fun hn => by
    obtain ⟨b, off, rfl, h1, h2⟩ := h.at' hn
    have hne : b ≠ l := by
      rintro rfl
      have h3 := h2 0 hn
      simp only [World.cell?, hW] at h3
      cases o <;> simp_all [Obj.isCells]
    have hh : (w.putObj l o').heap[b]? = w.heap[b]? := World.putObj_heap_other hne
    refine ⟨b, off, rfl, by simpa [World.putObj] using h1, fun j hj => ?_⟩
    have h3 := h2 j hj
    simp only [World.cell?, hh] at h3 ⊢
    exact h3⟩
theorem OwnR.putT {α : Type} {enc : α → Value} {w : World} {base : Nat} {e : TypeId} {A : Option Addr} {n c : Nat} {xs : List α} (h : OwnR enc w base e A n c xs) {l : Nat} {o o' : Obj} (hW : w.heap[l]? = some o) (ho : o.isCells = false) : OwnR enc (w.putObj l o') base e A n c xs :=
  h.turn (Turn.of_grown (grownBy_putObj' w l o')) fun g e1 e2 => by
    injection e2 with e2
    subst e2
    have := h.isCells e1 hW
    rw [ho] at this
    cases this
theorem Trio.putT {α β γ : Type} {ea : α → Value} {eb : β → Value} {ec : γ → Value} {w : World} {base : Nat} {ta tb tc : TypeId} {A : Option Addr} {n c : Nat} {X : List α} {B : Option Addr} {m d : Nat} {Y : List β} {C : Option Addr} {k e : Nat} {Z : List γ}
    (h : Trio ea eb ec w base ta tb tc A n c X B m d Y C k e Z) {l : Nat} {o o' : Obj} (hW : w.heap[l]? = some o) (ho : o.isCells = false) : Trio ea eb ec (w.putObj l o') base ta tb tc A n c X B m d Y C k e Z :=
  ⟨h.o1.putT hW ho, h.o2.putT hW ho, h.o3.putT hW ho, h.d12, h.d13, h.d23⟩
end Go.Proofs.Ytgmchedfgdgenaa
