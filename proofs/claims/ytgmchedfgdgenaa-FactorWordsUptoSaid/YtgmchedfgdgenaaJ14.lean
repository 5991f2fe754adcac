/- Joined by program out of: Multi, CellI, Abs. What each says stands at its own head. -/
import Derived.Test.YtgmchedfgdgenaaJ2
import Derived.Test.YtgmchedfgdgenaaJ11
import Derived.Test.YtgmchedfgdgenaaCheck
import Derived.Test.YtgmchedfgdgenaaJ6
/- Slices whose elements have several cells: read as lists, owned, appended to. Conditions: lengths within Go's bound. -/
namespace Go.Proofs.Ytgmchedfgdgenaa
open Go.RowKit

instance stable_below {wc : World} : Stable (fun w => Below wc.heap.size wc w) := ⟨fun hb h => h.trans (hb.mono h.size)⟩
/-- how a thing lies in k cells -/
structure Enc (α : Type) (k : Nat) where
  cells : α → List Value
  len : ∀ x, (cells x).length = k
  one : ∀ x, ∀ u ∈ cells x, u.oneCell' = true
/-- a slice type's facts: its element type of k cells, its zero value, its bytes -/
structure EIM (P : Program) (t e : TypeId) (z : Value) (k bytes : Nat) : Prop where
  ex : ∃ i : TypeInfo, P.underlying t = some (.slice e) ∧ P.info? e = some i ∧ i.zero = some z ∧ i.size = k ∧ i.bytes = bytes
  zs : z.cells.size = k
  pos : 1 ≤ bytes
  kpos : 0 < k
theorem EIM.mk' {P : Program} {t e : TypeId} {z : Value} {k bytes : Nat} (h1 : P.underlying t = some (.slice e)) (h2 : (P.info? e).map (fun i => (i.zero, i.size, i.bytes)) = some (some z, k, bytes)) (h3 : z.cells.size = k) (h4 : 1 ≤ bytes) (h5 : 0 < k) : EIM P t e z k bytes := by
  obtain ⟨i0, hi, hz0, hz1, hz2⟩ := info_parts h2
  exact ⟨⟨i0, h1, hi, hz0, hz1, hz2⟩, h3, h4, h5⟩
/-- the slice at A with n elements of k cells each reads as xs -/
structure SlM {α : Type} [Inhabited α] {k : Nat} (E : Enc α k) (w : World) (A : Option Addr) (n : Nat) (xs : List α) : Prop where
  len : xs.length = n
  big : n ≤ 140737488351232
  at' : 0 < n → ∃ b off, A = some ⟨b, off, none⟩ ∧ b < w.heap.size ∧ ∀ j i, j < n → i < k → w.cell? ⟨b, off + j * k + i, none⟩ = (E.cells (nth xs j))[i]?
section
variable {α : Type} [Inhabited α] {k : Nat} {E : Enc α k} {w w' : World} {A : Option Addr} {n : Nat} {xs : List α}
theorem SlM.nil (E : Enc α k) (w : World) (A : Option Addr) : SlM E w A 0 [] := ⟨rfl, by omega, fun h => absurd h (by omega)⟩
theorem SlM.below (h : SlM E w A n xs) {B : Nat} (hB : w.heap.size ≤ B) (hb : Below B w w') : SlM E w' A n xs :=
  ⟨h.len, h.big, fun hn => by
    obtain ⟨b, off, e, hlt, hc⟩ := h.at' hn
    exact ⟨b, off, e, Nat.lt_of_lt_of_le hlt hb.size, fun j i hj hi => (hb.cell (p := ⟨b, off + j * k + i, none⟩) (Nat.lt_of_lt_of_le hlt hB)).trans (hc j i hj hi)⟩⟩
theorem SlM.drewN (h : SlM E w A n xs) (q : Nat) : SlM E (w.drewN q) A n xs := ⟨h.len, h.big, h.at'⟩
instance : Stable (fun w => SlM E w A n xs) := ⟨fun hb h => h.below (Nat.le_refl _) hb⟩
theorem SlM.turn {a b : World} {S : Nat → Prop} (h : SlM E a A n xs) (ht : Turn a b S) (hS : 0 < n → ∀ g o, A = some ⟨g, o, none⟩ → ¬ S g) : SlM E b A n xs :=
  ⟨h.len, h.big, fun hn => by
    obtain ⟨g, off, e, hlt, hc⟩ := h.at' hn
    refine ⟨g, off, e, Nat.lt_of_lt_of_le hlt ht.size, fun j i hj hi => ?_⟩
    have : b.cell? ⟨g, off + j * k + i, none⟩ = a.cell? ⟨g, off + j * k + i, none⟩ := by simp only [World.cell?, ht.block g hlt (hS hn g off e)]
    exact this.trans (hc j i hj hi)⟩
end
/-- what the call owns: n elements of k cells at the head of a row among the blocks from base on -/
def OwnM {α : Type} {k : Nat} (E : Enc α k) (w : World) (base : Nat) (e : TypeId) (A : Option Addr) (n c : Nat) (xs : List α) : Prop := w.ownsRow base e k (.slice A n c) n (xs.flatMap E.cells)
theorem flat_length {α : Type} {k : Nat} (E : Enc α k) : ∀ xs : List α, (xs.flatMap E.cells).length = xs.length * k
  | [] => by simp
  | x :: xs => by rw [List.flatMap_cons, List.length_append, E.len, flat_length E xs, List.length_cons, Nat.add_mul, Nat.one_mul, Nat.add_comm]
theorem flat_nth {α : Type} [Inhabited α] {k : Nat} (E : Enc α k) : ∀ (xs : List α) (j i : Nat), j < xs.length → i < k → (xs.flatMap E.cells)[j * k + i]? = (E.cells (nth xs j))[i]?
  | [], j, _, h, _ => absurd h (by simp)
  | x :: xs, 0, i, _, hi => by
    rw [List.flatMap_cons, Nat.zero_mul, Nat.zero_add, List.getElem?_append_left (by rw [E.len]; exact hi)]
    rfl
  | x :: xs, j + 1, i, h, hi => by
    rw [List.flatMap_cons, Nat.add_mul, Nat.one_mul, List.getElem?_append_right (by rw [E.len]; omega), E.len, show j * k + k + i - k = j * k + i by omega, flat_nth E xs j i (by simpa using h) hi]
    rfl
section
variable {α : Type} {k : Nat} {E : Enc α k} {w w' : World} {base : Nat} {e : TypeId} {A : Option Addr} {n c : Nat} {xs : List α}
theorem OwnM.length (hk : 0 < k) (h : OwnM E w base e A n c xs) : xs.length = n := by
  have h1 := h.1
  rw [flat_length] at h1
  exact Nat.eq_of_mul_eq_mul_right hk h1
theorem OwnM.nil (E : Enc α k) (w : World) (base : Nat) (e : TypeId) : OwnM E w base e none 0 0 [] := World.ownsRow_nil _ _ _ _
theorem OwnM.mono (h : OwnM E w base e A n c xs) {base' : Nat} (hb : base' ≤ base) : OwnM E w base' e A n c xs := by
  refine ⟨h.1, ?_⟩
  rcases h.2 with h2 | ⟨g, cap, cur, h1, hg, r⟩
  · exact .inl h2
  · exact .inr ⟨g, cap, cur, h1, Nat.le_trans hb hg, r⟩
theorem OwnM.below (h : OwnM E w base e A n c xs) {B : Nat} (hB : w.heap.size ≤ B) (hb : Below B w w') : OwnM E w' base e A n c xs := by
  refine ⟨h.1, ?_⟩
  rcases h.2 with h2 | ⟨g, cap, cur, h1, hg, hh, r⟩
  · exact .inl h2
  · exact .inr ⟨g, cap, cur, h1, hg, (hb.block g (Nat.lt_of_lt_of_le (Array.getElem?_eq_some_iff.1 hh).1 hB)).trans hh, r⟩
theorem OwnM.drewN (h : OwnM E w base e A n c xs) (q : Nat) : OwnM E (w.drewN q) base e A n c xs := h
theorem OwnM.alloc (h : OwnM E w base e A n c xs) (o : Obj) : OwnM E (w.alloc o) base e A n c xs := World.ownsRow.alloc h o
instance : Stable (fun w => OwnM E w base e A n c xs) := ⟨fun hb h => h.below (Nat.le_refl _) hb⟩
theorem OwnM.geT (h : OwnM E w base e A n c xs) {g o : Nat} (e1 : A = some ⟨g, o, none⟩) : base ≤ g ∧ g < w.heap.size := by
  rcases h.2 with ⟨hv, _⟩ | ⟨g', cap, cur, hv, hb, hg, _⟩
  · injection hv with hv; rw [e1] at hv; cases hv
  · injection hv with hv
    rw [e1] at hv
    injection hv with hv
    injection hv with hv
    subst hv
    exact ⟨hb, (Array.getElem?_eq_some_iff.1 hg).1⟩
theorem OwnM.turn {a b : World} {S : Nat → Prop} (h : OwnM E a base e A n c xs) (ht : Turn a b S) (hS : ∀ g o, A = some ⟨g, o, none⟩ → ¬ S g) : OwnM E b base e A n c xs := by
  refine ⟨h.1, ?_⟩
  rcases h.2 with h2 | ⟨g, cap, cur, h1, hb, hh, r⟩
  · exact .inl h2
  · have e1 : A = some ⟨g, 0, none⟩ := by injection h1
    exact .inr ⟨g, cap, cur, h1, hb, (ht.block g (Array.getElem?_eq_some_iff.1 hh).1 (hS g 0 e1)).trans hh, r⟩
theorem OwnM.sl [Inhabited α] (hk : 0 < k) (h : OwnM E w base e A n c xs) (hbig : n ≤ 140737488351232) : SlM E w A n xs := by
  have hl := h.length hk
  refine ⟨hl, hbig, fun hn => ?_⟩
  rcases h.2 with ⟨_, h2⟩ | ⟨g, cap, cur, h1, hb, hg, _, _, hs, ht⟩
  · omega
  · have e1 : A = some ⟨g, 0, none⟩ := by injection h1
    refine ⟨g, 0, e1, (Array.getElem?_eq_some_iff.1 hg).1, fun j i hj hi => ?_⟩
    rw [cell_of_row w g _ _ e (0, 0) hg, Nat.zero_add]
    have h3 : j * k + i < n * k := by
      have : (j + 1) * k ≤ n * k := Nat.mul_le_mul_right _ hj
      rw [Nat.add_mul, Nat.one_mul] at this
      omega
    have h4 : (cur.toList.take (n * k))[j * k + i]? = cur.toList[j * k + i]? := by rw [List.getElem?_take, if_pos h3]
    rw [ht, flat_nth E xs j i (by omega) hi] at h4
    rw [h4]
    simp
end
section
variable {P : Program} (w : World)
/-- append of one element, which lies in a block of its own, onto a row of the call's own -/
theorem wpList_appM {α : Type} {k : Nat} {t e : TypeId} {z : Value} {bytes : Nat} (I : EIM P t e z k bytes) (E : Enc α k) {ops : Array Oper} {rest : List Oper} {o : Oper} {a : Act} {Q : Exit → Act → World → Prop} (hgd : o.guard = none) (s x : Operand)
    (ho : o.op = .call { callee := .builtin .append, args := #[s, x], argTypes := #[t, t] }) (base : Nat) (A : Option Addr) (n c : Nat) (xs : List α) (hs : a.eval s = .slice A n c) (hown : OwnM E w base e A n c xs)
    (ad : Addr) (d : Nat) (y : α) (hx : a.eval x = .slice (some ad) 1 d) (hy : ∀ j u, (E.cells y)[j]? = some u → w.cell? (ad.add j) = some u) (hbytes : (n + 1) * bytes ≤ 140737488355328) (hbase : base ≤ w.heap.size)
    (h : ∀ A' c' w', OwnM E w' base e A' (n + 1) c' (xs ++ [y]) → w.grownBy w' (Value.slice A n c).ownBlock → Below base w w' →
      ((Value.slice A' (n + 1) c').ownBlock = (Value.slice A n c).ownBlock ∨ (Value.slice A' (n + 1) c').ownBlock = some w.heap.size) → wpList P ops Q rest (a.put o.dst (.slice A' (n + 1) c')) w') : wpList P ops Q (o :: rest) a w := by
  obtain ⟨⟨i, e1, e2, e3, e4, e5⟩, hz, hp, hk⟩ := I
  refine wpList_plain hgd fun K hK => ?_
  have hrow : ∀ q, (Value.slice A n c).ownBlock = some q → base ≤ q := fun q hq => (World.ownsRow.lt hown q hq).1
  have h63 : n + 1 ≤ maxLen := by
    have : (n + 1) * 1 ≤ (n + 1) * bytes := Nat.mul_le_mul_left _ hp
    unfold maxLen; omega
  obtain ⟨v', w', hrun, h2, h3, _, h5⟩ := run_append_own_at (P := P) w base t o.type e i z k bytes e1 e2 e3 e4 e5 hz hk (.slice A n c) n (xs.flatMap E.cells) hown ad 1 d (E.cells y) (by rw [E.len, Nat.one_mul]) hy (E.one y) h63 hbytes hbase
  have hv : ∃ A' c', v' = .slice A' (n + 1) c' := by
    rcases h2.2 with ⟨rfl, h0⟩ | ⟨g, cap, cur, rfl, _⟩
    · omega
    · exact ⟨_, cap, rfl⟩
  obtain ⟨A', c', rfl⟩ := hv
  unfold Oper.wp execOp
  simp only [ho, resolve, invoke, builtin, Sem.run_bind, Sem.run_pure, Result.andThen_ok, List.map_toArray, List.map_cons, List.map_nil, hs, hx, hrun]
  refine hK _ _ (h A' c' w' ?_ h3 ((Below.refl _ _).grown h3 hbase hrow) h5)
  unfold OwnM
  rw [List.flatMap_append]
  simpa using h2
end
theorem newM {α : Type} {k : Nat} (E : Enc α k) (w : World) (e : TypeId) (y : α) : ∀ j u, (E.cells y)[j]? = some u → (w.alloc (.cells (E.cells y).toArray e)).cell? ((⟨w.heap.size, 0, none⟩ : Addr).add j) = some u := fun j u h => by
  rw [show (⟨w.heap.size, 0, none⟩ : Addr).add j = ⟨w.heap.size, 0 + j, none⟩ from Addr.add_lit _ _ _, cell_of_row _ _ _ _ _ _ (heap_alloc_new w _), Nat.zero_add]
  simpa using h
end Go.Proofs.Ytgmchedfgdgenaa
/- factor.Cell at int, walked. Conditions: the lists read, within Go's bound. -/
namespace Go.Proofs.Ytgmchedfgdgenaa
open Go.RowKit
attribute [local go_sem] Oper.semAt_some

/-- what is wrong with asking a cell, or 0 -/
def cellErr_i (S Z : List Int) (m : Nat) (d : List Int) : Int := if checkC S Z m ≠ 0 then checkC S Z m else (atC Z d).2
def CellPost_i (S Z : List Int) (L : List Int) (d : List Int) (w : World) (e : Ending) (w' : World) : Prop :=
  ((cellErr_i S Z L.length d ≠ 0 ∧ e = .returned (.tuple #[(.int .i64 0), .int .i64 (cellErr_i S Z L.length d)])) ∨
    (cellErr_i S Z L.length d = 0 ∧ e = .returned (.tuple #[Value.int .i64 (nth L (atS Z d).toNat), .int .i64 0]))) ∧ Below w.heap.size w w'
theorem atC_zero {Z d : List Int} (h : (atC Z d).2 = 0) (hz : ∀ z, z ∈ Z → 1 ≤ z) : (atC Z d).1 = atS Z d ∧ 0 ≤ atS Z d ∧ atS Z d < sufP Z 0 := by
  by_cases hl : d.length = Z.length
  · by_cases ha : ∀ i, i < Z.length → 0 ≤ nth d i ∧ nth d i < nth Z i
    · rw [atC_ok hl ha]
      have := atS_range (Z := Z) (d := d) hl.symm hz ha
      exact ⟨rfl, this⟩
    · obtain ⟨i, hi⟩ := Classical.not_forall.1 ha
      obtain ⟨hi, hb⟩ := Classical.not_imp.1 hi
      rw [atC_bad hl hi hb] at h
      cases h
  · rw [atC_len hl] at h
    cases h
set_option maxRecDepth 100000 in
set_option maxHeartbeats 800000 in
theorem cell_i (A1 A2 A3 A : Option Addr) (n1 c1 n2 c2 n3 c3 n c : Nat) (S Z : List Int) (L : List Int) (d : List Int) (w : World)
    (h1 : Sl (Value.int .i64) w A1 n1 S) (h2 : Sl (Value.int .i64) w A2 n2 Z) (h3 : Sl (Value.int .i64) w A3 n3 L) (hd : Sl (Value.int .i64) w A n d) :
    Calls Try.prog 25 #[.agg #[.slice A1 n1 c1, .slice A2 n2 c2, .slice A3 n3 c3], .slice A n c] w (CellPost_i S Z L d w) := by
  have HL := Lib.hid (And.intro h1.len (And.intro h2.len (And.intro h3.len hd.len)))
  have big1 := h3.big
  have H0 := ((((Held.init w).sl h1).sl h2).sl h3).sl hd |>.new 24 [.slice A1 n1 c1, .slice A2 n2 c2, .slice A3 n3 c3]
  clear h1 h2 h3 hd
  have a0 := H0.has.1.cell 0
  have a1 := H0.has.1.cell 1
  have a2 := H0.has.1.cell 2
  go_enter Try.func25, Try.ntmps25
  go_wp2_with fail
  refine (check_any A1 A2 A3 n1 c1 n2 c2 n3 c3 S Z _ H0.has.2.2.2.2.1 H0.has.2.2.2.1 big1).mono ?_
  rintro e w1 ⟨rfl, hb1⟩
  have H1 := H0.step hb1
  clear H0 hb1 a0 a1 a2
  generalize hck1 : checkC S Z n3 = ck1 at *
  by_cases hk1 : ck1 = 0
  · subst hk1
    obtain ⟨T1, hN1⟩ := checkC_ok hck1
    have a1 := H1.has.1.cell 1
    have a2 := H1.has.1.cell 2
    have HT := Lib.hid (And.intro T1 (And.intro hN1 hck1))
    clear T1 hN1 hck1
    go_wp2_with fail
    refine (at_any A2 A n2 c2 n c Z d _ H1.has.2.2.2.1 H1.has.2.1 HT.out.1.one HT.out.1.cnt).mono ?_
    rintro e w2 ⟨rfl, rfl⟩
    by_cases hk2 : (atC Z d).2 = 0
    · obtain ⟨e1, e2, e3⟩ := atC_zero hk2 HT.out.1.one
      rw [e1, hk2]
      have hN := HT.out.2.1
      obtain ⟨k, hk⟩ : ∃ k : Nat, atS Z d = (k : Int) := ⟨(atS Z d).toNat, by omega⟩
      have hkn : k < n3 := by omega
      obtain ⟨b, off, rfl, _, hc⟩ := H1.has.2.2.1.at' (by omega)
      have g1 := hc k hkn
      have HB := Lib.hid (And.intro hk (And.intro hk2 H1.bel))
      rw [hk]
      clear hc e1 e2 e3 hN hk hk2 H1
      go_wp2_with fail
      go_ret2
      refine ⟨.inr ⟨by unfold cellErr_i; rw [HL.out.2.2.1, HT.out.2.2]; simpa using HB.out.2.1, ?_⟩, HB.out.2.2⟩
      rw [HB.out.1]
      rfl
    · have hne : decide ((atC Z d).2 = 0) = false := by simpa using hk2
      have HB := Lib.hid H1.bel
      clear H1
      go_wp2_with fail
      go_ret2
      refine ⟨.inl ⟨by unfold cellErr_i; rw [HL.out.2.2.1, HT.out.2.2]; simpa using hk2, ?_⟩, HB.out⟩
      unfold cellErr_i
      rw [HL.out.2.2.1, HT.out.2.2]
      rfl
  · have hne1 : decide (ck1 = 0) = false := by simpa using hk1
    have HB := Lib.hid (And.intro hck1 H1.bel)
    clear H1 hck1
    go_wp2_with fail
    go_ret2
    refine ⟨.inl ⟨by unfold cellErr_i; rw [HL.out.2.2.1, HB.out.1]; simp [hk1], ?_⟩, HB.out.2⟩
    unfold cellErr_i
    rw [HL.out.2.2.1, HB.out.1]
    simp [hk1]
end Go.Proofs.Ytgmchedfgdgenaa
/- credencelaw13.abs and some, walked. Conditions: as many values as variables, not too many. -/
namespace Go.Proofs.Ytgmchedfgdgenaa
open Go.RowKit
attribute [local go_sem] Oper.semAt_some

/-- a number from 0 to 1000, out of any -/
def absF (n : Int) : Int := if Int.tmod n 1001 < 0 then -(Int.tmod n 1001) else Int.tmod n 1001
theorem absF_le (n : Int) : 0 ≤ absF n ∧ absF n ≤ 1000 := by
  unfold absF
  have h : -1001 < Int.tmod n 1001 ∧ Int.tmod n 1001 < 1001 := by
    rcases Int.le_total 0 n with h | h
    · have := Int.tmod_nonneg 1001 h
      have := Int.tmod_lt_of_pos n (show (0 : Int) < 1001 by decide)
      omega
    · have h1 := Int.tmod_nonneg 1001 (show 0 ≤ -n by omega)
      have h2 := Int.tmod_lt_of_pos (-n) (show (0 : Int) < 1001 by decide)
      rw [Int.neg_tmod] at h1 h2
      omega
  split <;> omega
set_option maxHeartbeats 400000 in
theorem abs_any (n : Int) (w : World) : Calls Try.prog 24 #[.int .i64 n] w fun e w' => e = .returned (.int .i64 (absF n)) ∧ w = w' := by
  have h := absF_le n
  unfold absF at h ⊢
  by_cases hn : Int.tmod n 1001 < 0
  · rw [if_pos hn] at h ⊢
    have hd : decide (Int.tmod n 1001 < 0) = true := by simpa using hn
    have hw : wrap64 (-Int.tmod n 1001) = -Int.tmod n 1001 := IntWalk.wrap64_in _ ⟨by omega, by omega⟩
    go_enter Try.func24, Try.ntmps24
    go_wp2_with fail
    go_ret
    exact ⟨by first | rfl | rw [hw], rfl⟩
  · rw [if_neg hn] at h ⊢
    have hd : decide (Int.tmod n 1001 < 0) = false := by simpa using hn
    go_enter Try.func24, Try.ntmps24
    go_wp2_with fail
    go_ret
    exact ⟨rfl, rfl⟩
/-- the values at the places, below k, of a variable -/
def someIn (U d : List Int) (x : Int) (k : Nat) : List Int := ((List.range k).filter fun j => nth U j == x).map (nth d)
def someF (U d of : List Int) (i : Nat) : List Int := (List.range i).flatMap fun a => someIn U d (nth of a) U.length
theorem someIn_succ (U d : List Int) (x : Int) (k : Nat) : someIn U d x (k + 1) = someIn U d x k ++ if nth U k = x then [nth d k] else [] := by
  unfold someIn
  rw [List.range_succ, List.filter_append, List.map_append]
  by_cases h : nth U k = x <;> simp [h]
theorem someIn_length (U d : List Int) (x : Int) (k : Nat) : (someIn U d x k).length ≤ k := by
  unfold someIn
  rw [List.length_map]
  exact Nat.le_trans (List.length_filter_le _ _) (by simp)
theorem someF_succ (U d of : List Int) (i : Nat) : someF U d of (i + 1) = someF U d of i ++ someIn U d (nth of i) U.length := by
  unfold someF; rw [List.range_succ, List.flatMap_append]; simp
theorem someF_length (U d of : List Int) : ∀ i, (someF U d of i).length ≤ i * U.length
  | 0 => by simp [someF]
  | i + 1 => by
    rw [someF_succ, List.length_append, Nat.add_mul, Nat.one_mul]
    exact Nat.add_le_add (someF_length U d of i) (someIn_length _ _ _ _)
set_option maxRecDepth 100000 in
set_option maxHeartbeats 800000 in
theorem some_any (A B C : Option Addr) (n c c2 q c3 : Nat) (U d of : List Int) (w : World) (hU : Sl (Value.int .i64) w A n U) (hd : Sl (Value.int .i64) w B n d) (ho : Sl (Value.int .i64) w C q of) (hb : q * n * 8 ≤ 140737488351232) :
    Calls Try.prog 26 #[.slice A n c, .slice B n c2, .slice C q c3] w fun e w' => ∃ D k, e = .returned (.slice D (someF U d of q).length k) ∧ OwnR (Value.int .i64) w' w.heap.size 3 D (someF U d of q).length k (someF U d of q) ∧ Below w.heap.size w w' := by
  have HS := Lib.hid (And.intro hU (And.intro hd ho))
  have big1 := hU.big
  have big2 := ho.big
  have HL := Lib.hid (And.intro hU.len (And.intro hd.len ho.len))
  clear hU hd ho
  go_enter Try.func26, Try.ntmps26
  go_wp2_with fail
  go_loopw [7, 8] (fun l i wr => ∃ (a : Nat) (D : Option Addr) (k : Nat), a ≤ q ∧ i = .int .i64 (a : Nat) ∧ l = .slice D (someF U d of a).length k ∧ OwnR (Value.int .i64) wr w.heap.size 3 D (someF U d of a).length k (someF U d of a) ∧ Below w.heap.size w wr) (fun _ i _ => q - (intOf i).toNat)
  case atStart => exact ⟨0, none, 0, Nat.zero_le _, rfl, rfl, OwnR.nil _ _ _ _, Below.refl _ _⟩
  case round =>
    obtain ⟨a, D, k, ha, rfl, rfl, hO, hbr⟩ := hrel
    obtain ⟨wo, hwo⟩ : ∃ wo : World, wo = wr := ⟨_, rfl⟩
    subst hwo
    by_cases hlt : a < q
    · have HO := Lib.hid (And.intro hO hbr)
      clear hO hbr
      have hal : (a + 1) * n ≤ q * n := Nat.mul_le_mul_right _ hlt
      rw [Nat.add_mul, Nat.one_mul] at hal
      have hfl := someF_length U d of a
      rw [HL.out.1] at hfl
      go_wp2_with fail
      go_loopw [7, 9] (fun l j wr => ∃ (b : Nat) (D : Option Addr) (k : Nat), b ≤ n ∧ j = .int .i64 (b : Nat) ∧ l = .slice D (someF U d of a ++ someIn U d (nth of a) b).length k ∧ OwnR (Value.int .i64) wr w.heap.size 3 D (someF U d of a ++ someIn U d (nth of a) b).length k (someF U d of a ++ someIn U d (nth of a) b) ∧ Below w.heap.size w wr) (fun _ j _ => n - (intOf j).toNat)
      case atStart => exact ⟨0, D, k, Nat.zero_le _, rfl, by simp [someIn], by have := HO.out.1; simpa [someIn] using this, HO.out.2⟩
      case round =>
        obtain ⟨b, D, k, hb', rfl, rfl, hO, hbr⟩ := hrel
        have hil := someIn_length U d (nth of a) b
        by_cases hlb : b < n
        · obtain ⟨u1, o1, rfl, _, hc1⟩ := (HS.out.1.below (Nat.le_refl _) hbr).at' (by omega)
          obtain ⟨u2, o2, rfl, _, hc2⟩ := (HS.out.2.1.below (Nat.le_refl _) hbr).at' (by omega)
          obtain ⟨u3, o3, rfl, _, hc3⟩ := (HS.out.2.2.below (Nat.le_refl _) hbr).at' (by omega)
          have g1 := hc1 b hlb
          have g2 := hc2 b hlb
          have g3 := hc3 a hlt
          clear hc1 hc2 hc3
          have hsz := hbr.size
          obtain ⟨X, hX⟩ : ∃ X, X = someF U d of a ++ someIn U d (nth of a) b := ⟨_, rfl⟩
          have hXl : X.length ≤ a * n + b := by rw [hX, List.length_append]; omega
          rw [← hX] at hO ⊢
          have hs := someIn_succ U d (nth of a) b
          by_cases heq : nth U b = nth of a
          · rw [if_pos heq] at hs
            have hbe : (nth U b == nth of a) = true := by simpa using heq
            have hq8 : (X.length + 1) * 8 ≤ 140737488355328 := by omega
            obtain ⟨xu, hxu⟩ : ∃ xu, xu = nth U b := ⟨_, rfl⟩
            obtain ⟨xo, hxo⟩ : ∃ xo, xo = nth of a := ⟨_, rfl⟩
            rw [← hxu, ← hxo] at hbe
            rw [← hxu] at g1
            rw [← hxo] at g3
            have HX := Lib.hid (And.intro hX (And.intro hs hbr))
            have HO1 := Lib.hid hO
            clear hX hs heq hxu hxo hbr hO
            go_wp2_with fail
            go_quiet (fail)
            obtain ⟨wq, hwq⟩ : ∃ wq, wq = wr.drewN nq := ⟨_, rfl⟩
            have ho1 := (HO1.out.drewN nq).alloc (.cells #[.int .i64 (nth d b)] 3)
            have g2 : (wr.drewN nq).cell? ⟨u2, o2 + b, none⟩ = some (.int .i64 (nth d b)) := g2
            have hbq := (below_drewN HX.out.2.2 nq).alloc (by exact hsz) (.cells #[.int .i64 (nth d b)] 3)
            rw [← hwq] at ho1 g2 hbq ⊢
            have hsz1 := hbq.size
            have HB := Lib.hid hbq
            clear hwq hbq hsz g1 g3 hbe
            go_wp2_with (first
              | (at_builtin; refine wpList_app _ eiI (Value.int .i64) (fun _ => rfl) rfl _ _ rfl w.heap.size _ _ _ _ rfl ho1 _ _ _ _ rfl (Sl.one (enc := Value.int .i64) _ _ _) hq8 hsz1 ?_)
              | fail)
            intro C9 k9 w9 ho9 _ hb9 _
            have e9 : X ++ [nth d b] = someF U d of a ++ someIn U d (nth of a) (b + 1) := by rw [HX.out.1, HX.out.2.1, List.append_assoc]
            have l9 : X.length + 1 = (someF U d of a ++ someIn U d (nth of a) (b + 1)).length := by rw [← e9]; simp
            have HR := Lib.hid (And.intro ho9 (And.intro (HB.out.trans hb9) (And.intro e9 l9)))
            clear ho9 hb9 ho1 hsz1 hq8 e9 l9
            go_wp2_with fail
            refine ⟨⟨b + 1, C9, k9, by omega, by go_num, by rw [← HR.out.2.2.2], ?_, HR.out.2.1⟩, by simp [intOf]; omega⟩
            rw [← HR.out.2.2.2, ← HR.out.2.2.1]
            exact HR.out.1
          · rw [if_neg heq, List.append_nil] at hs
            have hbe : (nth U b == nth of a) = false := by simpa using heq
            obtain ⟨xu, hxu⟩ : ∃ xu, xu = nth U b := ⟨_, rfl⟩
            obtain ⟨xo, hxo⟩ : ∃ xo, xo = nth of a := ⟨_, rfl⟩
            rw [← hxu, ← hxo] at hbe
            rw [← hxu] at g1
            rw [← hxo] at g3
            have HX := Lib.hid (And.intro hX (And.intro hs (And.intro hbr hO)))
            clear hX hs heq hxu hxo hbr hO g2
            go_wp2_with fail
            go_quiet (fail)
            go_wp2_with fail
            refine ⟨⟨b + 1, D, k, by omega, by go_num, by rw [HX.out.2.1, HX.out.1], ?_, below_drewN HX.out.2.2.1 _⟩, by simp [intOf]; omega⟩
            rw [HX.out.2.1, ← HX.out.1]
            exact HX.out.2.2.2.drewN _
        · obtain rfl : b = n := by omega
          have he := someF_succ U d of a
          rw [HL.out.1] at he
          rw [← he] at hO ⊢
          have HO := Lib.hid (And.intro hO hbr)
          clear hO hbr he
          go_wp2_with fail
          exact ⟨⟨a + 1, D, k, by omega, by go_num, rfl, HO.out.1, HO.out.2⟩, by simp [intOf]; omega⟩
    · obtain rfl : a = q := by omega
      have HO := Lib.hid (And.intro hO hbr)
      clear hO hbr
      go_wp2_with fail
      go_ret
      exact ⟨D, k, rfl, HO.out.1, HO.out.2⟩
end Go.Proofs.Ytgmchedfgdgenaa
