/- Joined by program out of: Prod, StridesS. What each says stands at its own head. -/
import Derived.Test.YtgmchedfgdgenaaJ6
import Derived.Test.YtgmchedfgdgenaaJ4
import Derived.Test.YtgmchedfgdgenaaJ2
import Derived.Test.YtgmchedfgdgenaaJ5
/- The state of a loop that fills the cells of a table that lies in a box of the call's own, while a function of digits is gone through. No condition. -/
namespace Go.Proofs.Ytgmchedfgdgenaa
open Go.RowKit

instance stable_cell {p : Addr} {v : Value} : Stable (fun w => w.cell? p = some v) := ⟨fun {w w'} hb h => by
  rcases Nat.lt_or_ge p.block w.heap.size with hlt | hge
  · exact (hb.cell hlt).trans h
  · simp [World.cell?, Array.getElem?_eq_none hge] at h⟩
theorem Held.again {w0 w : World} {P : World → Prop} (h : Held w0 P w) : Held w P w := ⟨Below.refl _ _, h.has⟩
theorem OwnR.geT {α : Type} {enc : α → Value} {w : World} {base : Nat} {e : TypeId} {A : Option Addr} {n c : Nat} {xs : List α} (h : OwnR enc w base e A n c xs) {g : Nat} (e1 : A = some ⟨g, 0, none⟩) : base ≤ g ∧ g < w.heap.size := by
  rcases h.at_row with h1 | ⟨g', h1, h2, h3⟩
  · rw [e1] at h1; cases h1
  · rw [e1] at h1; injection h1 with h1; injection h1 with h1; subst h1; exact ⟨h2, h3⟩
theorem Turn.cellT {a b : World} {S : Nat → Prop} (h : Turn a b S) {g o : Nat} (hg : g < a.heap.size) (hS : ¬ S g) : b.cell? ⟨g, o, none⟩ = a.cell? ⟨g, o, none⟩ := by
  simp only [World.cell?, h.block g hg hS]
theorem OwnR.isCells {α : Type} {enc : α → Value} {w : World} {base : Nat} {e : TypeId} {A : Option Addr} {n c : Nat} {xs : List α} (h : OwnR enc w base e A n c xs) {g : Nat} (e1 : A = some ⟨g, 0, none⟩) {o : Obj} (ho : w.heap[g]? = some o) : o.isCells = true := by
  rcases h.2 with ⟨h1, _⟩ | ⟨g', cap, cur, h1, _, hg, _⟩
  · injection h1 with h1; rw [e1] at h1; cases h1
  · injection h1 with h1
    rw [e1] at h1
    injection h1 with h1
    injection h1 with h1
    subst h1
    rw [hg] at ho
    injection ho with ho
    subst ho
    rfl
theorem OwnR.row_neT {α : Type} {enc : α → Value} {w : World} {base : Nat} {e e' : TypeId} {A : Option Addr} {n c : Nat} {xs : List α} {cs : List Value} {g : Nat} (h : OwnR enc w base e A n c xs) (e1 : A = some ⟨g, 0, none⟩) (hr : RowC w g e' cs) (hne : e ≠ e') : False := by
  rcases h.2 with ⟨h1, _⟩ | ⟨g', cap, cur, h1, _, hg, _⟩
  · injection h1 with h1; rw [e1] at h1; cases h1
  · injection h1 with h1
    rw [e1] at h1
    injection h1 with h1
    injection h1 with h1
    subst h1
    unfold RowC at hr
    rw [hg] at hr
    injection hr with hr
    injection hr with _ hr
    exact hne hr
/-- two slices that were told, put into two new boxes -/
theorem two_stored {wb W : World} {q1 q2 b1 b2 n lc m rc : Nat} {LA RA : Option Addr} {X Y : List Int} (hb : Below wb.heap.size wb W) (h1 : OwnR (Value.int .i64) W b1 3 LA n lc X) (h2 : OwnR (Value.int .i64) W b2 3 RA m rc Y)
    (r1 : RowC W q1 22 [.slice none 0 0]) (r2 : RowC W q2 22 [.slice none 0 0]) (hne : q1 ≠ q2) (g1 : wb.heap.size ≤ q1) (g2 : wb.heap.size ≤ q2) :
    Below wb.heap.size wb ((W.setCell ⟨q1, 0, none⟩ (.slice LA n lc)).setCell ⟨q2, 0, none⟩ (.slice RA m rc)) ∧ OwnR (Value.int .i64) ((W.setCell ⟨q1, 0, none⟩ (.slice LA n lc)).setCell ⟨q2, 0, none⟩ (.slice RA m rc)) b1 3 LA n lc X ∧
      OwnR (Value.int .i64) ((W.setCell ⟨q1, 0, none⟩ (.slice LA n lc)).setCell ⟨q2, 0, none⟩ (.slice RA m rc)) b2 3 RA m rc Y ∧
      RowC ((W.setCell ⟨q1, 0, none⟩ (.slice LA n lc)).setCell ⟨q2, 0, none⟩ (.slice RA m rc)) q1 22 [.slice LA n lc] ∧ RowC ((W.setCell ⟨q1, 0, none⟩ (.slice LA n lc)).setCell ⟨q2, 0, none⟩ (.slice RA m rc)) q2 22 [.slice RA m rc] :=
  ⟨(hb.setCell (p := ⟨q1, 0, none⟩) g1 _).setCell (p := ⟨q2, 0, none⟩) g2 _,
    (h1.setFar (p := ⟨q1, 0, none⟩) (fun g e h => by subst h; exact h1.row_neT e r1 (by decide)) _).setFar (p := ⟨q2, 0, none⟩) (fun g e h => by subst h; exact h1.row_neT e r2 (by decide)) _,
    (h2.setFar (p := ⟨q1, 0, none⟩) (fun g e h => by subst h; exact h2.row_neT e r1 (by decide)) _).setFar (p := ⟨q2, 0, none⟩) (fun g e h => by subst h; exact h2.row_neT e r2 (by decide)) _,
    (r1.put 0 _).far (by simpa using hne) _, (r2.far (by simpa using hne.symm) _).put 0 _⟩
/-- between two rounds: a box at pp with two lists that stay, and the cells so far -/
structure ProdLp {α : Type} (enc : α → Value) (eb ee : TypeId) (w wc : World) (pp g0 : Nat) (u1 u2 : Value) (W : World) (C : Option Addr) (t k : Nat) (xs : List α) : Prop where
  bel : Below w.heap.size w W
  tu : Turn wc W (fun x => x = pp ∨ x = g0)
  box : RowC W pp eb [u1, u2, .slice C t k]
  cells : OwnR enc W w.heap.size ee C t k xs
  at' : ∀ g, C = some ⟨g, 0, none⟩ → g = g0 ∨ wc.heap.size ≤ g
  hg : w.heap.size ≤ g0
  gp : g0 < pp
  pw : pp < wc.heap.size
section
variable {α : Type} {enc : α → Value} {eb ee : TypeId} {w wc W W6 W9 : World} {pp g0 : Nat} {u1 u2 : Value} {C : Option Addr} {t k : Nat} {xs : List α}
theorem ProdLp.below (h : ProdLp enc eb ee w wc pp g0 u1 u2 W C t k xs) {W' : World} (hb : Below W.heap.size W W') : ProdLp enc eb ee w wc pp g0 u1 u2 W' C t k xs :=
  ⟨h.bel.trans (hb.mono h.bel.size), h.tu.trans (Turn.of_below hb (fun _ => False)) (fun _ _ e => e.elim), h.box.below' hb, h.cells.below (Nat.le_refl _) hb, h.at', h.hg, h.gp, h.pw⟩
theorem ProdLp.put (h : ProdLp enc eb ee w wc pp g0 u1 u2 W C t k xs) {l : Nat} {o o' : Obj} (hl : wc.heap.size ≤ l) (hW : W.heap[l]? = some o) (ho : o.isCells = false) : ProdLp enc eb ee w wc pp g0 u1 u2 (W.putObj l o') C t k xs := by
  have hT : Turn W (W.putObj l o') (fun x => some l = some x) := Turn.of_grown (grownBy_putObj' W l o')
  have hpw := h.pw
  have hgp := h.gp
  have hhg := h.hg
  refine ⟨h.bel.grown (grownBy_putObj' W l o') (by have := h.bel.size; omega) (fun k e => by cases e; omega), h.tu.trans hT (fun x hx e => by injection e with e; omega), h.box.turn hT (fun e => by injection e with e; omega), h.cells.turn hT (fun g e1 e2 => ?_), h.at', h.hg, h.gp, h.pw⟩
  injection e2 with e2
  subst e2
  have := h.cells.isCells e1 hW
  rw [ho] at this
  cases this
theorem ProdLp.app {C' : Option Addr} {k' : Nat} {ys : List α} (h : ProdLp enc eb ee w wc pp g0 u1 u2 W C t k xs) (hb : Below W.heap.size W W6) (ho : OwnR enc W9 w.heap.size ee C' (t + 1) k' ys) (hg : W6.grownBy W9 (Value.slice C t k).ownBlock)
    (hd : (Value.slice C' (t + 1) k').ownBlock = (Value.slice C t k).ownBlock ∨ (Value.slice C' (t + 1) k').ownBlock = some W6.heap.size) (hne : ∀ g, C' = some ⟨g, 0, none⟩ → g ≠ pp) :
    KeepsOthers W (W9.setCell ⟨pp, 2, none⟩ (.slice C' (t + 1) k')) ∧ (∀ lo, pp < lo → KeepR lo wc.heap.size W (W9.setCell ⟨pp, 2, none⟩ (.slice C' (t + 1) k'))) ∧
      ProdLp enc eb ee w wc pp g0 u1 u2 (W9.setCell ⟨pp, 2, none⟩ (.slice C' (t + 1) k')) C' (t + 1) k' ys := by
  have h6 := h.below hb
  have hpw := h.pw
  have hgp := h.gp
  have hhg := h.hg
  have hT9 : Turn W6 W9 (fun x => (Value.slice C t k).ownBlock = some x) := Turn.of_grown hg
  have hown : ∀ g, (Value.slice C t k).ownBlock = some g → g = g0 ∨ wc.heap.size ≤ g := fun g e1 => h6.at' g (h6.cells.block_eq e1)
  have hrow : ∀ (j : Nat) (o : Obj), (Value.slice C t k).ownBlock = some j → W6.heap[j]? = some o → o.isCells = true := fun j o e1 e2 => h6.cells.isCells (h6.cells.block_eq e1) e2
  have hs6 := h6.tu.size
  have hs9 := hT9.size
  have hsb := hb.size
  have box9 : RowC W9 pp eb [u1, u2, .slice C t k] := h6.box.turn hT9 (fun e => by have := hown pp e; omega)
  have hko : KeepsOthers W W6 := ⟨hb.size, fun k o hk _ => (hb.block k (Array.getElem?_eq_some_iff.1 hk).1).trans hk⟩
  have hsz : (W9.setCell ⟨pp, 2, none⟩ (.slice C' (t + 1) k')).heap.size = W9.heap.size := by simp [World.setCell]
  refine ⟨hko.trans ((KeepsOthers.of_grownBy hg hrow).trans (KeepsOthers.setCell _ _ _)), fun lo hlo => ⟨by omega, fun b h1 h2 => ?_⟩, ?_⟩
  · refine (Below.heap_setCell W9 _ _ b (by show b ≠ pp; omega)).trans ((hT9.block b ?_ ?_).trans (hb.block b ?_))
    · have := h.tu.size; omega
    · intro e; have := hown b e; omega
    · have := h.tu.size; omega
  · refine ⟨?_, ?_, ?_, ?_, ?_, hhg, hgp, hpw⟩
    · refine ((h6.bel.trans (hT9.below h6.bel.size (fun x hx e => by have := hown x e; have := h.bel.size; have := h.tu.size; omega)))).setCell (p := ⟨pp, 2, none⟩) (by show w.heap.size ≤ pp; omega) _
    · exact (h6.tu.trans hT9 (fun x hx e => by have := hown x e; omega)).setCell ⟨pp, 2, none⟩ (fun _ => .inl rfl) _
    · exact box9.put 2 _
    · exact ho.setFar (fun g e1 => hne g e1) _
    · intro g e1
      have h1 : (Value.slice C' (t + 1) k').ownBlock = some g := by rw [e1]; rfl
      rcases hd with hd | hd
      · exact hown g (by rw [← hd]; exact h1)
      · rw [h1] at hd; injection hd with hd; omega
theorem ProdLp.grown (h : ProdLp enc eb ee w wc pp g0 u1 u2 W C t k xs) (hg : W.grownBy W9 (Value.slice C t k).ownBlock) : RowC W9 pp eb [u1, u2, .slice C t k] ∧ ∀ g o v, g ≠ g0 → g < wc.heap.size → W.cell? ⟨g, o, none⟩ = some v → W9.cell? ⟨g, o, none⟩ = some v := by
  have hpw := h.pw
  have hgp := h.gp
  have hT9 : Turn W W9 (fun x => (Value.slice C t k).ownBlock = some x) := Turn.of_grown hg
  have hown : ∀ g, (Value.slice C t k).ownBlock = some g → g = g0 ∨ wc.heap.size ≤ g := fun g e1 => h.at' g (h.cells.block_eq e1)
  refine ⟨h.box.turn hT9 (fun e => by have := hown pp e; omega), fun g o v h1 h2 h3 => ?_⟩
  rw [hT9.cellT (by have := h.tu.size; omega) (fun e => by have := hown g e; omega)]
  exact h3
end
theorem Sl.putT {α : Type} [Inhabited α] {enc : α → Value} {w : World} {A : Option Addr} {n : Nat} {xs : List α} (h : Sl enc w A n xs) {l : Nat} {o o' : Obj} (hW : w.heap[l]? = some o) (ho : o.isCells = false) : Sl enc (w.putObj l o') A n xs :=
  ⟨h.len, h.big, fun hn => by
    obtain ⟨b, off, rfl, h1, h2⟩ := h.at' hn
    have hne : b ≠ l := by
      rintro rfl
      have h3 := h2 0 hn
      simp only [World.cell?, hW] at h3
      cases o <;> simp_all [Obj.isCells]
    have hh : (w.putObj l o').heap[b]? = w.heap[b]? := World.putObj_heap_other hne
    refine ⟨b, off, rfl, by simpa [World.putObj] using h1, fun j hj => ?_⟩
    have h3 := h2 j hj
    simp only [World.cell?, hh] at h3 ⊢
    exact h3⟩
theorem OwnR.putT {α : Type} {enc : α → Value} {w : World} {base : Nat} {e : TypeId} {A : Option Addr} {n c : Nat} {xs : List α} (h : OwnR enc w base e A n c xs) {l : Nat} {o o' : Obj} (hW : w.heap[l]? = some o) (ho : o.isCells = false) : OwnR enc (w.putObj l o') base e A n c xs :=
  h.turn (Turn.of_grown (grownBy_putObj' w l o')) fun g e1 e2 => by
    injection e2 with e2
    subst e2
    have := h.isCells e1 hW
    rw [ho] at this
    cases this
theorem Trio.putT {α β γ : Type} {ea : α → Value} {eb : β → Value} {ec : γ → Value} {w : World} {base : Nat} {ta tb tc : TypeId} {A : Option Addr} {n c : Nat} {X : List α} {B : Option Addr} {m d : Nat} {Y : List β} {C : Option Addr} {k e : Nat} {Z : List γ}
    (h : Trio ea eb ec w base ta tb tc A n c X B m d Y C k e Z) {l : Nat} {o o' : Obj} (hW : w.heap[l]? = some o) (ho : o.isCells = false) : Trio ea eb ec (w.putObj l o') base ta tb tc A n c X B m d Y C k e Z :=
  ⟨h.o1.putT hW ho, h.o2.putT hW ho, h.o3.putT hW ho, h.d12, h.d13, h.d23⟩
end Go.Proofs.Ytgmchedfgdgenaa
/- factor.strides at string, walked. Conditions: the lists read, within Go's bound; the scope rises and has all of the table's variables; sizes of 1 or more, not too many. -/
namespace Go.Proofs.Ytgmchedfgdgenaa
open Go.RowKit

set_option maxRecDepth 100000 in
set_option maxHeartbeats 800000 in
theorem strides_s (A A1 A2 A3 : Option Addr) (n c n1 c1 c2 n3 c3 : Nat) (U S Z : List Int) (w : World) (h : Sl (Value.int .i64) w A n U) (h1 : Sl (Value.int .i64) w A1 n1 S) (h2 : Sl (Value.int .i64) w A2 n1 Z) (hb : n * 8 ≤ 140737488351232)
    (ha : Asc cmpI U) (hS : S.Nodup) (hSU : ∀ x, x ∈ S → x ∈ U) (hz : ∀ z, z ∈ Z → 1 ≤ z) (hm : sufP Z 0 ≤ 2147483647) :
    Calls Try.prog 81 #[.agg #[.slice A1 n1 c1, .slice A2 n1 c2, .slice A3 n3 c3], .slice A n c] w fun e w' => ∃ B d, e = .returned (.slice B n d) ∧ OwnR (Value.int .i64) w' w.heap.size 3 B n d (stL U S Z 0) ∧ Below w.heap.size w w' := by
  have hbig1 := h1.big
  have hrow := RowC.new w 33 [.slice A1 n1 c1, .slice A2 n1 c2, .slice A3 n3 c3]
  have HO := Lib.hid (And.intro h (And.intro h1 h2))
  have HL := Lib.hid (And.intro h.len (And.intro h1.len (And.intro h2.len (And.intro ha (And.intro hS (And.intro hSU (And.intro hz hm)))))))
  have hq : 8 * n ≤ 281474976710656 := by omega
  have hw0 : IntKind.i64.wrap ((n1 : Int) - 1) = (n1 : Int) - 1 := by simp [IntKind.wrap, IntKind.bits, IntKind.signed]; omega
  clear h h1 h2 ha hS hSU hz hm
  go_enter Try.func81, Try.ntmps81
  go_wp2_with (first
    | (at_make; refine wpList_mk _ eiI (Value.int .i64) 0 rfl rfl _ _ rfl n rfl rfl hq ?_)
    | fail)
  intro w4 hr hb4
  have hr4 := hrow.below hb4 (Nat.lt_succ_self _)
  have hbw : Below w.heap.size w w4 := ((Below.refl _ w).alloc (Nat.le_refl _) _).trans (hb4.mono (Nat.le_succ _))
  have r0 := hr4.cell 0
  obtain ⟨g, hg⟩ : ∃ g, g = w.heap.size + 1 := ⟨_, rfl⟩
  rw [← hg] at hr ⊢
  have hgl : w.heap.size < g := by omega
  have HB := Lib.hid (And.intro hr4 (And.intro hbw (And.intro hr hg)))
  clear hr4 hbw hr hrow hb4 hg
  go_wp2_with fail
  clear r0
  go_loopw [6, 7] (fun st i wr => ∃ m : Nat, m ≤ n1 ∧ st = .int .i64 (sufP Z m) ∧ i = .int .i64 ((m : Int) - 1) ∧ RowAt (Value.int .i64) wr g 3 (stL U S Z m) [] ∧ RowC wr w.heap.size 33 [.slice A1 n1 c1, .slice A2 n1 c2, .slice A3 n3 c3] ∧ Below w.heap.size w wr) (fun _ i _ => (intOf i + 1).toNat)
  case atStart =>
    refine ⟨n1, Nat.le_refl _, ?_, rfl, ?_, HB.out.1, HB.out.2.1⟩
    · rw [sufP_end (by have := HL.out.2.2.1; omega)]
    · have h1 := HL.out.1
      have h2 := HL.out.2.1
      rw [← h2, stL_end, h1]
      exact HB.out.2.2.1
  case round =>
    obtain ⟨m, hm, rfl, rfl, hr, hbx, hb⟩ := hrel
    obtain ⟨wb, hwb⟩ : ∃ wb : World, wb = wr := ⟨_, rfl⟩
    subst hwb
    rcases Nat.eq_zero_or_pos m with rfl | hpos
    · have HF := Lib.hid (And.intro hr hb)
      clear hr hbx hb
      go_wp2_with fail
      go_ret
      have hl := HL.out.1
      exact ⟨_, _, rfl, OwnR.of_row' HF.out.1 (by have := HB.out.2.2.2; omega) (by rw [stL_length]; simpa using hl) (by unfold maxLen; omega) (by rw [stL_length]; exact hl), HF.out.2⟩
    · obtain ⟨k, rfl⟩ : ∃ k, m = k + 1 := ⟨m - 1, by omega⟩
      obtain ⟨lU, lS, lZ, ha, hS, hSU, hz, hmx⟩ := HL.out
      have hk : k < n1 := by omega
      have hsU := HO.out.1.below (Nat.le_refl _) hb
      obtain ⟨b1, o1, rfl, _, hc1⟩ := (HO.out.2.1.below (Nat.le_refl _) hb).at' (by omega)
      obtain ⟨b2, o2, rfl, _, hc2⟩ := (HO.out.2.2.below (Nat.le_refl _) hb).at' (by omega)
      have g1 := hc1 k hk
      have g2 := hc2 k hk
      have r0 := hbx.cell 0
      have r1 := hbx.cell 1
      have hkz : ((k + 1 : Nat) : Int) - 1 = (k : Int) := by omega
      have hk0 : (0 : Int) ≤ (k : Int) := by omega
      have hkn : (k : Int) < (n1 : Int) := by omega
      rw [hkz]
      have hst := sufP_step (Z := Z) (k := k) (by omega)
      have hmo := sufP_mono hz k
      have hpz := sufP_pos hz k
      have HS := Lib.hid (And.intro hst (And.intro hr (And.intro hbx hb)))
      clear hc1 hc2 hr hbx
      go_wp2_with fail
      refine (SoI.bs_any A n c U (nth S k) _ hsU ha).mono ?_
      rintro e w5 ⟨p, rfl, hpl, hw5⟩
      subst hw5
      obtain ⟨hp1, hp2⟩ := bs_at hpl ha (hSU _ (nth_mem (by omega)))
      have hstep := stL_step (Z := Z) hS (asc_nodup ha) (m := k) (p := p) (by omega) hp1 hp2
      have hpr : p < (stL U S Z (k + 1)).length := by rw [stL_length]; exact hp1
      have f1 := HS.out.2.1.frozen p
      have u1 := HS.out.2.1.cell hpr
      have hset := HS.out.2.1.set hpr (sufP Z (k + 1))
      rw [hstep] at hset
      have hbx2 := HS.out.2.2.1.far (p := ⟨g, p, none⟩) (by simp; omega) (.int .i64 (sufP Z (k + 1)))
      have hb2 := HS.out.2.2.2.setCell (p := ⟨g, p, none⟩) (by simp; omega) (.int .i64 (sufP Z (k + 1)))
      have hpn : (p : Int) < (n : Int) := by omega
      have hp0 : (0 : Int) ≤ (p : Int) := by omega
      have hne2 : ∀ (u : Value), (wb.setCell ⟨g, p, none⟩ u).cell? ⟨b2, o2 + k, none⟩ = some (.int .i64 (nth Z k)) := fun u => by
        obtain ⟨b', o', e1, hlt, _⟩ := HO.out.2.2.at' (by omega)
        injection e1 with e1
        injection e1 with e1 _
        exact (cell_farN (by omega)).trans g2
      have hmul : wrap64 (sufP Z (k + 1) * nth Z k) = sufP Z k := by rw [Int.mul_comm, ← hst]; unfold wrap64; omega
      have hmul2 : IntKind.i64.wrap (sufP Z (k + 1) * nth Z k) = sufP Z k := by rw [IntKind.wrap_i64, Int.mul_comm, ← hst]; omega
      have hq2 := hne2 (.int .i64 (sufP Z (k + 1)))
      have HQ := Lib.hid (And.intro hset (And.intro hbx2 hb2))
      have r3 := hbx2.cell 1
      have hsub : IntKind.i64.wrap ((k : Int) - 1) = (k : Int) - 1 := by simp [IntKind.wrap, IntKind.bits, IntKind.signed]; omega
      clear hst hmo hpz hset hbx2 hb2 hne2 HS hsU hstep g1 hpl lU lS lZ ha hS hSU hz hmx hp2 hb
      go_upto_region 8 with fail
      generalize wb.setCell ⟨g, p, none⟩ (.int .i64 (sufP Z (k + 1))) = wz at *
      clear g2 r0 r1 f1 u1
      go_wp2_with fail
      exact ⟨⟨k, by omega, by first | rfl | rw [hmul] | rw [hmul2] | trivial, by first | rfl | (congr 1; omega) | trivial, HQ.out.1, HQ.out.2.1, HQ.out.2.2⟩, by simp [intOf]⟩
end Go.Proofs.Ytgmchedfgdgenaa
