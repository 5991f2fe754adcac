/- A table with a variable summed out, in plain words. No condition. -/
import Derived.Test.YtgmchedfgdgenaaProd
namespace Go.Proofs.Ytgmchedfgdgenaa
open Go.RowKit

/-- how far the sizes from i on, j of them, go -/
def midP (Z : List Int) (i : Nat) : Nat → Int
  | 0 => 1
  | j + 1 => midP Z i j * nth Z (i + j)
theorem midP_pos {Z : List Int} (hz : ∀ z, z ∈ Z → 1 ≤ z) (i : Nat) : ∀ j, i + j ≤ Z.length → 1 ≤ midP Z i j
  | 0, _ => Int.le_refl _
  | j + 1, h => by
    have h1 := midP_pos hz i j (by omega)
    have h2 := hz _ (nth_mem (show i + j < Z.length by omega))
    have := Int.mul_le_mul h1 h2 (by omega) (by omega)
    simpa [midP] using this
theorem midP_suf {Z : List Int} (i : Nat) : ∀ j, i + j ≤ Z.length → midP Z i j * sufP Z (i + j) = sufP Z i
  | 0, _ => by simp [midP]
  | j + 1, h => by
    rw [midP, Int.mul_assoc, ← Nat.add_assoc, ← sufP_step (by omega)]
    exact midP_suf i j (by omega)
theorem midP_le {Z : List Int} (hz : ∀ z, z ∈ Z → 1 ≤ z) (i j : Nat) (h : i + j ≤ Z.length) : midP Z i j ≤ sufP Z 0 := by
  have h1 := midP_pos hz i j h
  have h2 := midP_suf i j h
  have h3 := sufP_pos hz (i + j)
  have h4 := sufP_mono hz i
  have h5 := Int.mul_le_mul_of_nonneg_left h3 (show 0 ≤ midP Z i j by omega)
  omega
theorem step_mk0 {P : Program} (w : World) {α : Type} {t e : TypeId} {z : Value} {bytes : Nat} (I : EI P t e z bytes) (enc : α → Value) {ops : Array Oper} {o : Oper} {a : Act} {K : Act → World → Prop} {Q : Exit → Act → World → Prop} {E : Prop} (hgd : o.guard = none) (l c : Operand)
    (ho : o.op = Op.makeSlice t l c) (n : Nat) (hl : a.eval l = .int .i64 0) (hc : a.eval c = .int .i64 (n : Int)) (hb : bytes * n ≤ 281474976710656)
    (h : ∀ w', OwnR enc w' w.heap.size e (some ⟨w.heap.size, 0, none⟩) 0 n [] → Below w.heap.size w w' → K (a.put o.dst (.slice (some ⟨w.heap.size, 0, none⟩) 0 n)) w') :
    if Region.wanted o (yielded ops a.tmps) = true then Oper.wp P o a w K Q else E := by
  obtain ⟨⟨i, e1, e2, e3, e4, e5⟩, _, hp⟩ := I
  have hn : 1 * n ≤ bytes * n := Nat.mul_le_mul_right _ hp
  have hw : Region.wanted o (yielded ops a.tmps) = true := by simp [Region.wanted, hgd]
  rw [if_pos hw]
  obtain ⟨w', hrun, r1, r2⟩ := run_make_own (P := P) w w.heap.size t e i z 1 e1 e2 e3 e4 .i64 .i64 n (by rw [e5]; exact hb) (by unfold maxLen; omega) (Nat.le_refl _)
  unfold Oper.wp
  simp [execOp, ho, hl, hc, hrun, Result.andThen]
  exact h w' r1 ⟨r2.os, r2.tape, r2.output, r2.size, fun b hb => r2.block b hb (by simp)⟩
/-- where the cells with the value 0 at a place stand -/
def firstF (z step t : Nat) : Int := ((t / step * (step * z) + t % step : Nat) : Int)
def firstL (z step m : Nat) : List Int := (List.range m).map (firstF z step)
theorem firstL_succ (z step m : Nat) : firstL z step (m + 1) = firstL z step m ++ [firstF z step m] := by unfold firstL; rw [List.range_succ, List.map_append]; rfl
theorem firstL_length (z step m : Nat) : (firstL z step m).length = m := by simp [firstL]
theorem firstF_at {z step p i : Nat} (h : i < step) : firstF z step (p * step + i) = ((p * (step * z) + i : Nat) : Int) := by
  unfold firstF
  rw [Nat.mul_comm p step, Nat.mul_add_div (by omega), Nat.div_eq_of_lt h, Nat.mul_add_mod, Nat.mod_eq_of_lt h, Nat.add_zero]
/-- what is wrong with summing out, or 0 -/
def outErr (S Z : List Int) (m : Nat) (v : Int) : Int := if checkC S Z m ≠ 0 then checkC S Z m else if isIn cmpI v S = true then 0 else 61
/-- where the variable stands, how many values it has, how far they are apart, how often they come -/
structure OutAt (S Z : List Int) (v : Int) (m i z step P : Nat) : Prop where
  lt : i < S.length
  is : nth S i = v
  size : nth Z i = (z : Int)
  apart : sufP Z (i + 1) = (step : Int)
  m : m = P * (step * z)
  z1 : 1 ≤ z
  s1 : 1 ≤ step
theorem outAt_of {S Z : List Int} {m i : Nat} (T : TabOk S Z) (hm : sufP Z 0 = (m : Int)) (hi : i < S.length) : ∃ z step P, OutAt S Z (nth S i) m i z step P := by
  have hiZ : i < Z.length := by rw [T.len]; exact hi
  have hz := T.one _ (nth_mem hiZ)
  have hs := sufP_pos T.one (i + 1)
  have hp := midP_pos T.one 0 i (by omega)
  have h1 := midP_suf (Z := Z) 0 i (by omega)
  rw [Nat.zero_add, sufP_step hiZ, hm] at h1
  refine ⟨(nth Z i).toNat, (sufP Z (i + 1)).toNat, (midP Z 0 i).toNat, hi, rfl, by omega, by omega, ?_, by omega, by omega⟩
  have e1 : ((midP Z 0 i).toNat : Int) = midP Z 0 i := by omega
  have e2 : ((sufP Z (i + 1)).toNat : Int) = sufP Z (i + 1) := by omega
  have e3 : ((nth Z i).toNat : Int) = nth Z i := by omega
  apply Int.ofNat.inj
  show ((m : Nat) : Int) = (((midP Z 0 i).toNat * ((sufP Z (i + 1)).toNat * (nth Z i).toNat) : Nat) : Int)
  rw [Int.natCast_mul, Int.natCast_mul, e1, e2, e3, ← h1, Int.mul_comm (sufP Z (i + 1))]
section
variable {S Z : List Int} {v : Int} {m i z step P : Nat}
theorem OutAt.first_lt (h : OutAt S Z v m i z step P) {t : Nat} (ht : t < P * step) {k : Nat} (hk : k < z) : (firstF z step t).toNat + k * step < m := by
  unfold firstF
  have hs := h.s1
  have h1 : t / step < P := Nat.div_lt_of_lt_mul (by rw [Nat.mul_comm]; exact ht)
  have h2 : t % step < step := Nat.mod_lt _ hs
  have h3 : (k + 1) * step ≤ z * step := Nat.mul_le_mul_right _ hk
  have h4 : (t / step + 1) * (step * z) ≤ P * (step * z) := Nat.mul_le_mul_right _ h1
  rw [Nat.add_mul, Nat.one_mul] at h3 h4
  rw [← h.m] at h4
  rw [Nat.mul_comm z step] at h3
  simp only [Int.toNat_natCast]
  omega
theorem firstF_nonneg (z step t : Nat) : 0 ≤ firstF z step t := by unfold firstF; exact Int.natCast_nonneg _
end
theorem nth_firstL {z step m t : Nat} (h : t < m) : nth (firstL z step m) t = firstF z step t := by
  unfold firstL; rw [nth_map _ (by simpa using h), nth_eq (by simpa using h)]; simp
/-- between two rounds: a box at pp with two lists that stay, and the cells so far -/
structure OutLp {α : Type} (enc : α → Value) (eb ee : TypeId) (wc : World) (pp : Nat) (u1 u2 : Value) (W : World) (C : Option Addr) (t k : Nat) (xs : List α) : Prop where
  tu : Turn wc W (fun x => x = pp)
  box : RowC W pp eb [u1, u2, .slice C t k]
  cells : OwnR enc W wc.heap.size ee C t k xs
  pw : pp < wc.heap.size
section
variable {α : Type} {enc : α → Value} {eb ee : TypeId} {wc W W9 : World} {pp : Nat} {u1 u2 : Value} {C : Option Addr} {t k : Nat} {xs : List α}
theorem OutLp.below (h : OutLp enc eb ee wc pp u1 u2 W C t k xs) {W' : World} (hb : Below W.heap.size W W') : OutLp enc eb ee wc pp u1 u2 W' C t k xs :=
  ⟨h.tu.trans (Turn.of_below hb (fun _ => False)) (fun _ _ e => e.elim), h.box.below' hb, h.cells.below (Nat.le_refl _) hb, h.pw⟩
theorem OutLp.drew (h : OutLp enc eb ee wc pp u1 u2 W C t k xs) : OutLp enc eb ee wc pp u1 u2 W.drew C t k xs := h.below (below_refl_drewN _ _ 1)
theorem OutLp.alloc (h : OutLp enc eb ee wc pp u1 u2 W C t k xs) (o : Obj) : OutLp enc eb ee wc pp u1 u2 (W.alloc o) C t k xs := h.below ((Below.refl _ _).alloc (Nat.le_refl _) o)
theorem OutLp.app {C' : Option Addr} {k' : Nat} {ys : List α} (h : OutLp enc eb ee wc pp u1 u2 W C t k xs) (ho : OwnR enc W9 wc.heap.size ee C' (t + 1) k' ys) (hg : W.grownBy W9 (Value.slice C t k).ownBlock) :
    OutLp enc eb ee wc pp u1 u2 (W9.setCell ⟨pp, 2, none⟩ (.slice C' (t + 1) k')) C' (t + 1) k' ys := by
  have hpw := h.pw
  have hT9 : Turn W W9 (fun x => (Value.slice C t k).ownBlock = some x) := Turn.of_grown hg
  have hown : ∀ g, (Value.slice C t k).ownBlock = some g → wc.heap.size ≤ g := fun g e1 => (h.cells.geT (h.cells.block_eq e1)).1
  have hsz := h.tu.size
  refine ⟨(h.tu.trans hT9 (fun x hx e => by have := hown x e; omega)).setCell ⟨pp, 2, none⟩ (fun _ => rfl) _, (h.box.turn hT9 (fun e => by have := hown pp e; omega)).put 2 _, ho.setFar (fun g e1 => by have := (ho.geT e1).1; show g ≠ pp; omega) _, hpw⟩
/-- what stays of what there was ahead of the loop -/
theorem OutLp.cell (h : OutLp enc eb ee wc pp u1 u2 W C t k xs) {g o : Nat} {x : Value} (hg : g < wc.heap.size) (hne : g ≠ pp) (hc : wc.cell? ⟨g, o, none⟩ = some x) : W.cell? ⟨g, o, none⟩ = some x := (h.tu.cellT hg hne).trans hc
end
theorem Sl.turn {α : Type} [Inhabited α] {enc : α → Value} {a b : World} {S : Nat → Prop} {A : Option Addr} {n : Nat} {xs : List α} (h : Sl enc a A n xs) (ht : Turn a b S) (hS : ∀ g o, A = some ⟨g, o, none⟩ → ¬ S g) : Sl enc b A n xs :=
  ⟨h.len, h.big, fun hn => by
    obtain ⟨g, off, e, hlt, hc⟩ := h.at' hn
    exact ⟨g, off, e, Nat.lt_of_lt_of_le hlt ht.size, fun j hj => (ht.cellT hlt (hS g off e)).trans (hc j hj)⟩⟩
/-- a box of three, written over whole -/
theorem set3 {w W wz : World} {q : Nat} {e : TypeId} {a0 a1 a2 v0 v1 v2 : Value} (hb : Below w.heap.size w W) (h : RowC W q e [a0, a1, a2]) (hq : w.heap.size ≤ q) (hz : wz = ((W.setCell ⟨q, 0, none⟩ v0).setCell ⟨q, 1, none⟩ v1).setCell ⟨q, 2, none⟩ v2) :
    wz.cell? ⟨q, 0, none⟩ = some v0 ∧ wz.cell? ⟨q, 1, none⟩ = some v1 ∧ wz.cell? ⟨q, 2, none⟩ = some v2 ∧ Below w.heap.size w wz ∧ Turn W wz (fun x => x = q) := by
  subst hz
  have X := ((h.put 0 v0).put 1 v1).put 2 v2
  refine ⟨X.cell 0, X.cell 1, X.cell 2, ((hb.setCell (p := ⟨q, 0, none⟩) hq v0).setCell (p := ⟨q, 1, none⟩) hq v1).setCell (p := ⟨q, 2, none⟩) hq v2, ?_⟩
  exact (((Turn.refl W (fun x => x = q)).setCell ⟨q, 0, none⟩ (fun _ => rfl) v0).setCell ⟨q, 1, none⟩ (fun _ => rfl) v1).setCell ⟨q, 2, none⟩ (fun _ => rfl) v2
end Go.Proofs.Ytgmchedfgdgenaa
