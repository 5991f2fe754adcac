/- Joined by program out of: OutMath, FoldS, DelShelf, Del. What each says stands at its own head. -/
import Derived.Test.YtgmchedfgdgenaaJ7
import Derived.Test.YtgmchedfgdgenaaJ3
import Derived.Test.YtgmchedfgdgenaaJ9
import Derived.Deep.RegionHeld3
import Derived.Shelf.Slices.Equal
import Derived.Ground.Names2Prog
import Derived.Shelf.Slices.Delete
import Derived.Shelf.Slices.Cells
import Derived.Shelf.Slices.Empties2
import Derived.Test.YtgmchedfgdgenaaProg
/- A table with a variable summed out, in plain words. No condition. -/
namespace Go.Proofs.Ytgmchedfgdgenaa
open Go.RowKit

/-- how far the sizes from i on, j of them, go -/
def midP (Z : List Int) (i : Nat) : Nat → Int
  | 0 => 1
  | j + 1 => midP Z i j * nth Z (i + j)
theorem midP_pos {Z : List Int} (hz : ∀ z, z ∈ Z → 1 ≤ z) (i : Nat) : ∀ j, i + j ≤ Z.length → 1 ≤ midP Z i j
  | 0, _ => Int.le_refl _
  | j + 1, h => by
    have h1 := midP_pos hz i j (by omega)
    have h2 := hz _ (nth_mem (show i + j < Z.length by omega))
    have := Int.mul_le_mul h1 h2 (by omega) (by omega)
    simpa [midP] using this
theorem midP_suf {Z : List Int} (i : Nat) : ∀ j, i + j ≤ Z.length → midP Z i j * sufP Z (i + j) = sufP Z i
  | 0, _ => by simp [midP]
  | j + 1, h => by
    rw [midP, Int.mul_assoc, ← Nat.add_assoc, ← sufP_step (by omega)]
    exact midP_suf i j (by omega)
theorem midP_le {Z : List Int} (hz : ∀ z, z ∈ Z → 1 ≤ z) (i j : Nat) (h : i + j ≤ Z.length) : midP Z i j ≤ sufP Z 0 := by
  have h1 := midP_pos hz i j h
  have h2 := midP_suf i j h
  have h3 := sufP_pos hz (i + j)
  have h4 := sufP_mono hz i
  have h5 := Int.mul_le_mul_of_nonneg_left h3 (show 0 ≤ midP Z i j by omega)
  omega
theorem step_mk0 {P : Program} (w : World) {α : Type} {t e : TypeId} {z : Value} {bytes : Nat} (I : EI P t e z bytes) (enc : α → Value) {ops : Array Oper} {o : Oper} {a : Act} {K : Act → World → Prop} {Q : Exit → Act → World → Prop} {E : Prop} (hgd : o.guard = none) (l c : Operand)
    (ho : o.op = Op.makeSlice t l c) (n : Nat) (hl : a.eval l = .int .i64 0) (hc : a.eval c = .int .i64 (n : Int)) (hb : bytes * n ≤ 281474976710656)
    (h : ∀ w', OwnR enc w' w.heap.size e (some ⟨w.heap.size, 0, none⟩) 0 n [] → Below w.heap.size w w' → K (a.put o.dst (.slice (some ⟨w.heap.size, 0, none⟩) 0 n)) w') :
    if Region.wanted o (yielded ops a.tmps) = true then Oper.wp P o a w K Q else E := by
  obtain ⟨⟨i, e1, e2, e3, e4, e5⟩, _, hp⟩ := I
  have hn : 1 * n ≤ bytes * n := Nat.mul_le_mul_right _ hp
  have hw : Region.wanted o (yielded ops a.tmps) = true := by simp [Region.wanted, hgd]
  rw [if_pos hw]
  obtain ⟨w', hrun, r1, r2⟩ := run_make_own (P := P) w w.heap.size t e i z 1 e1 e2 e3 e4 .i64 .i64 n (by rw [e5]; exact hb) (by unfold maxLen; omega) (Nat.le_refl _)
  unfold Oper.wp
  simp [execOp, ho, hl, hc, hrun, Result.andThen]
  exact h w' r1 ⟨r2.os, r2.tape, r2.output, r2.size, fun b hb => r2.block b hb (by simp)⟩
/-- where the cells with the value 0 at a place stand -/
def firstF (z step t : Nat) : Int := ((t / step * (step * z) + t % step : Nat) : Int)
def firstL (z step m : Nat) : List Int := (List.range m).map (firstF z step)
theorem firstL_succ (z step m : Nat) : firstL z step (m + 1) = firstL z step m ++ [firstF z step m] := by unfold firstL; rw [List.range_succ, List.map_append]; rfl
theorem firstL_length (z step m : Nat) : (firstL z step m).length = m := by simp [firstL]
theorem firstF_at {z step p i : Nat} (h : i < step) : firstF z step (p * step + i) = ((p * (step * z) + i : Nat) : Int) := by
  unfold firstF
  rw [Nat.mul_comm p step, Nat.mul_add_div (by omega), Nat.div_eq_of_lt h, Nat.mul_add_mod, Nat.mod_eq_of_lt h, Nat.add_zero]
/-- what is wrong with summing out, or 0 -/
def outErr (S Z : List Int) (m : Nat) (v : Int) : Int := if checkC S Z m ≠ 0 then checkC S Z m else if isIn cmpI v S = true then 0 else 61
/-- where the variable stands, how many values it has, how far they are apart, how often they come -/
structure OutAt (S Z : List Int) (v : Int) (m i z step P : Nat) : Prop where
  lt : i < S.length
  is : nth S i = v
  size : nth Z i = (z : Int)
  apart : sufP Z (i + 1) = (step : Int)
  m : m = P * (step * z)
  z1 : 1 ≤ z
  s1 : 1 ≤ step
theorem outAt_of {S Z : List Int} {m i : Nat} (T : TabOk S Z) (hm : sufP Z 0 = (m : Int)) (hi : i < S.length) : ∃ z step P, OutAt S Z (nth S i) m i z step P := by
  have hiZ : i < Z.length := by rw [T.len]; exact hi
  have hz := T.one _ (nth_mem hiZ)
  have hs := sufP_pos T.one (i + 1)
  have hp := midP_pos T.one 0 i (by omega)
  have h1 := midP_suf (Z := Z) 0 i (by omega)
  rw [Nat.zero_add, sufP_step hiZ, hm] at h1
  refine ⟨(nth Z i).toNat, (sufP Z (i + 1)).toNat, (midP Z 0 i).toNat, hi, rfl, by omega, by omega, ?_, by omega, by omega⟩
  have e1 : ((midP Z 0 i).toNat : Int) = midP Z 0 i := by omega
  have e2 : ((sufP Z (i + 1)).toNat : Int) = sufP Z (i + 1) := by omega
  have e3 : ((nth Z i).toNat : Int) = nth Z i := by omega
  apply Int.ofNat.inj
  show ((m : Nat) : Int) = (((midP Z 0 i).toNat * ((sufP Z (i + 1)).toNat * (nth Z i).toNat) : Nat) : Int)
  rw [Int.natCast_mul, Int.natCast_mul, e1, e2, e3, ← h1, Int.mul_comm (sufP Z (i + 1))]
section
variable {S Z : List Int} {v : Int} {m i z step P : Nat}
theorem OutAt.first_lt (h : OutAt S Z v m i z step P) {t : Nat} (ht : t < P * step) {k : Nat} (hk : k < z) : (firstF z step t).toNat + k * step < m := by
  unfold firstF
  have hs := h.s1
  have h1 : t / step < P := Nat.div_lt_of_lt_mul (by rw [Nat.mul_comm]; exact ht)
  have h2 : t % step < step := Nat.mod_lt _ hs
  have h3 : (k + 1) * step ≤ z * step := Nat.mul_le_mul_right _ hk
  have h4 : (t / step + 1) * (step * z) ≤ P * (step * z) := Nat.mul_le_mul_right _ h1
  rw [Nat.add_mul, Nat.one_mul] at h3 h4
  rw [← h.m] at h4
  rw [Nat.mul_comm z step] at h3
  simp only [Int.toNat_natCast]
  omega
theorem firstF_nonneg (z step t : Nat) : 0 ≤ firstF z step t := by unfold firstF; exact Int.natCast_nonneg _
end
theorem nth_firstL {z step m t : Nat} (h : t < m) : nth (firstL z step m) t = firstF z step t := by
  unfold firstL; rw [nth_map _ (by simpa using h), nth_eq (by simpa using h)]; simp
/-- between two rounds: a box at pp with two lists that stay, and the cells so far -/
structure OutLp {α : Type} (enc : α → Value) (eb ee : TypeId) (wc : World) (pp : Nat) (u1 u2 : Value) (W : World) (C : Option Addr) (t k : Nat) (xs : List α) : Prop where
  tu : Turn wc W (fun x => x = pp)
  box : RowC W pp eb [u1, u2, .slice C t k]
  cells : OwnR enc W wc.heap.size ee C t k xs
  pw : pp < wc.heap.size
section
variable {α : Type} {enc : α → Value} {eb ee : TypeId} {wc W W9 : World} {pp : Nat} {u1 u2 : Value} {C : Option Addr} {t k : Nat} {xs : List α}
theorem OutLp.below (h : OutLp enc eb ee wc pp u1 u2 W C t k xs) {W' : World} (hb : Below W.heap.size W W') : OutLp enc eb ee wc pp u1 u2 W' C t k xs :=
  ⟨h.tu.trans (Turn.of_below hb (fun _ => False)) (fun _ _ e => e.elim), h.box.below' hb, h.cells.below (Nat.le_refl _) hb, h.pw⟩
theorem OutLp.drew (h : OutLp enc eb ee wc pp u1 u2 W C t k xs) : OutLp enc eb ee wc pp u1 u2 W.drew C t k xs := h.below (below_refl_drewN _ _ 1)
theorem OutLp.alloc (h : OutLp enc eb ee wc pp u1 u2 W C t k xs) (o : Obj) : OutLp enc eb ee wc pp u1 u2 (W.alloc o) C t k xs := h.below ((Below.refl _ _).alloc (Nat.le_refl _) o)
theorem OutLp.app {C' : Option Addr} {k' : Nat} {ys : List α} (h : OutLp enc eb ee wc pp u1 u2 W C t k xs) (ho : OwnR enc W9 wc.heap.size ee C' (t + 1) k' ys) (hg : W.grownBy W9 (Value.slice C t k).ownBlock) :
    OutLp enc eb ee wc pp u1 u2 (W9.setCell ⟨pp, 2, none⟩ (.slice C' (t + 1) k')) C' (t + 1) k' ys := by
  have hpw := h.pw
  have hT9 : Turn W W9 (fun x => (Value.slice C t k).ownBlock = some x) := Turn.of_grown hg
  have hown : ∀ g, (Value.slice C t k).ownBlock = some g → wc.heap.size ≤ g := fun g e1 => (h.cells.geT (h.cells.block_eq e1)).1
  have hsz := h.tu.size
  refine ⟨(h.tu.trans hT9 (fun x hx e => by have := hown x e; omega)).setCell ⟨pp, 2, none⟩ (fun _ => rfl) _, (h.box.turn hT9 (fun e => by have := hown pp e; omega)).put 2 _, ho.setFar (fun g e1 => by have := (ho.geT e1).1; show g ≠ pp; omega) _, hpw⟩
/-- what stays of what there was ahead of the loop -/
theorem OutLp.cell (h : OutLp enc eb ee wc pp u1 u2 W C t k xs) {g o : Nat} {x : Value} (hg : g < wc.heap.size) (hne : g ≠ pp) (hc : wc.cell? ⟨g, o, none⟩ = some x) : W.cell? ⟨g, o, none⟩ = some x := (h.tu.cellT hg hne).trans hc
end
theorem Sl.turn {α : Type} [Inhabited α] {enc : α → Value} {a b : World} {S : Nat → Prop} {A : Option Addr} {n : Nat} {xs : List α} (h : Sl enc a A n xs) (ht : Turn a b S) (hS : ∀ g o, A = some ⟨g, o, none⟩ → ¬ S g) : Sl enc b A n xs :=
  ⟨h.len, h.big, fun hn => by
    obtain ⟨g, off, e, hlt, hc⟩ := h.at' hn
    exact ⟨g, off, e, Nat.lt_of_lt_of_le hlt ht.size, fun j hj => (ht.cellT hlt (hS g off e)).trans (hc j hj)⟩⟩
/-- a box of three, written over whole -/
theorem set3 {w W wz : World} {q : Nat} {e : TypeId} {a0 a1 a2 v0 v1 v2 : Value} (hb : Below w.heap.size w W) (h : RowC W q e [a0, a1, a2]) (hq : w.heap.size ≤ q) (hz : wz = ((W.setCell ⟨q, 0, none⟩ v0).setCell ⟨q, 1, none⟩ v1).setCell ⟨q, 2, none⟩ v2) :
    wz.cell? ⟨q, 0, none⟩ = some v0 ∧ wz.cell? ⟨q, 1, none⟩ = some v1 ∧ wz.cell? ⟨q, 2, none⟩ = some v2 ∧ Below w.heap.size w wz ∧ Turn W wz (fun x => x = q) := by
  subst hz
  have X := ((h.put 0 v0).put 1 v1).put 2 v2
  refine ⟨X.cell 0, X.cell 1, X.cell 2, ((hb.setCell (p := ⟨q, 0, none⟩) hq v0).setCell (p := ⟨q, 1, none⟩) hq v1).setCell (p := ⟨q, 2, none⟩) hq v2, ?_⟩
  exact (((Turn.refl W (fun x => x = q)).setCell ⟨q, 0, none⟩ (fun _ => rfl) v0).setCell ⟨q, 1, none⟩ (fun _ => rfl) v1).setCell ⟨q, 2, none⟩ (fun _ => rfl) v2
end Go.Proofs.Ytgmchedfgdgenaa
/- ring.fold and ring.Sum at string, walked. Condition: the things may be added. -/
namespace Go.Proofs.Ytgmchedfgdgenaa
open Go.RowKit
attribute [local go_sem] Oper.semAt_some

theorem isNilT_s (w : World) : (binOp .eql 77 (.iface 45 (.agg #[])) .nilIface).run Try.prog w = .ok (.bool false) w := by kernel_rfl
theorem aheadAdd_s (w : World) : (nilAhead 280 45 (.agg #[]) "Add").run Try.prog w = .ok (some false) w := by kernel_rfl
theorem methodAdd_s (w : World) : (method 280 45 (.agg #[]) "Add").run Try.prog w = .ok (121, .agg #[]) w := by kernel_rfl
theorem aheadZero_s (w : World) : (nilAhead 280 45 (.agg #[]) "Zero").run Try.prog w = .ok (some false) w := by kernel_rfl
theorem methodZero_s (w : World) : (method 280 45 (.agg #[]) "Zero").run Try.prog w = .ok (125, .agg #[]) w := by kernel_rfl
/-- the sum of some, from the left -/
def foldF_s (x : ByteArray) (L : List ByteArray) : ByteArray := L.foldl addF_s x
def FoldOk_s (x : ByteArray) (L : List ByteArray) : Prop := ∀ k, k < L.length → AddOk_s (foldF_s x (L.take k)) (nth L k)
theorem foldF_succ_s {x : ByteArray} {L : List ByteArray} {k : Nat} (h : k < L.length) : foldF_s x (L.take (k + 1)) = addF_s (foldF_s x (L.take k)) (nth L k) := by
  unfold foldF_s; rw [take_snoc h, List.foldl_append]; rfl
set_option maxRecDepth 100000 in
set_option maxHeartbeats 400000 in
theorem fold_s (x : ByteArray) (A : Option Addr) (n c : Nat) (L : List ByteArray) (w : World) (h : Sl (Value.string) w A n L) (hok : FoldOk_s x L) :
    Calls Try.prog 94 #[Value.string x, .slice A n c, .func (.method "Add") #[.iface 45 (.agg #[])] #[]] w fun e w' => e = .returned (Value.string (foldF_s x L)) ∧ Below w.heap.size w w' := by
  have H0 := (Held.init w).sl h
  have HL := Lib.hid (And.intro h.len hok)
  have hbig := h.big
  clear h hok
  go_enter Try.func94, Try.ntmps94
  go_wp2_with fail
  go_loopw [0, 11] (fun x' i wr => ∃ k : Nat, k ≤ n ∧ i = .int .i64 k ∧ x' = Value.string (foldF_s x (L.take k)) ∧ Held w (fun w' => Sl (Value.string) w' A n L ∧ True) wr) (fun _ i _ => n - (intOf i).toNat)
  case atStart => exact ⟨0, Nat.zero_le _, rfl, rfl, H0⟩
  case round =>
    obtain ⟨k, hk, rfl, rfl, H⟩ := hrel
    clear H0
    by_cases hlt : k < n
    · obtain ⟨b, off, rfl, hb, hc⟩ := H.has.1.at' (by omega)
      have g1 := hc k hlt
      clear hc
      have hna := aheadAdd_s
      have hme := methodAdd_s
      go_wp2_with fail
      refine (addC_s _ _ _ (HL.out.2 k (by rw [HL.out.1]; exact hlt))).mono ?_
      rintro e w1 ⟨rfl, hb1⟩
      rw [← foldF_succ_s (by rw [HL.out.1]; exact hlt)]
      have HB := Lib.hid (H.step hb1)
      clear H g1 hb1 hna hme
      go_wp2_with fail
      exact ⟨⟨k + 1, by omega, by go_num, rfl, HB.out⟩, by simp [intOf]; omega⟩
    · obtain rfl : k = n := by omega
      have HB := Lib.hid H.bel
      clear H
      go_wp2_with fail
      go_ret
      have he : foldF_s x (L.take k) = foldF_s x L := by rw [List.take_of_length_le (by rw [HL.out.1]; exact Nat.le_refl _)]
      exact ⟨show Ending.returned (Value.string (foldF_s x (L.take k))) = _ from by rw [he], HB.out⟩
set_option maxRecDepth 100000 in
set_option maxHeartbeats 400000 in
theorem sum_s (A : Option Addr) (n c : Nat) (L : List ByteArray) (w : World) (h : Sl (Value.string) w A n L) (hok : FoldOk_s zeroF_s L) :
    Calls Try.prog 85 #[.iface 45 (.agg #[]), .slice A n c] w fun e w' => e = .returned (Value.string (foldF_s zeroF_s L)) ∧ Below w.heap.size w w' := by
  have H0 := (Held.init w).sl h
  have HD := Lib.hid H0.drew
  clear h H0
  have hni := isNilT_s
  have hna := aheadAdd_s
  have hnz := aheadZero_s
  have hmz := methodZero_s
  go_enter Try.func85, Try.ntmps85
  go_wp2_with fail
  go_region_held3 (fun _ => True) (first | trivial | assumption | go_keep)
    (first
      | ((go_at_call 125); (with_reducible refine (zeroC_s _).mono ?_); (rintro e w1 ⟨rfl, hb1⟩); (have H1 := HD.out.step hb1))
      | ((go_at_call 94); (with_reducible refine (fold_s _ A n c L _ H1.has.1 hok).mono ?_); (rintro e w2 ⟨rfl, hb2⟩); (have H2 := H1.step hb2)))
  all_goals (go_wp2_with fail; go_ret; exact ⟨rfl, H2.bel⟩)
end Go.Proofs.Ytgmchedfgdgenaa
/-
  DERIVED: THE SHELF's CONTRACTS AT THIS DUMP, IN PLAIN WORDS (tools/lay-plain.mjs out of 'YtgmchedfgdgenaaDelShelf.lean', which tools/lay-shelf.mjs wrote): THE SAME DECLARATIONS UNDER THE SAME NAMES: 'import', 'namespace', 'open', 'def', 'theorem' AND NOTHING ELSE: no command of the shelf's: FOR A HAND-IN. Each laying: the table of numbers ('.._ren') and one theorem, a field a fact of the dump's own or the kernel's comparison; each contract: ONE APPLICATION.
-/
namespace Go.Proofs
open Go.Shelf
def Try.laysNm223_ren : Go.Shelf.Ren := ⟨fun | 23 => 92 | n => n, fun | 22 => 22 | 3 => 3 | 4 => 4 | 0 => 0 | n => n, fun | n => n⟩
theorem Try.laysNm223 : Go.Proofs.Lays2.n23 Try.prog Try.laysNm223_ren := {
  mixed := by kernel_rfl
  f23 := Try.func92.trans (congrArg some (by kernel_rfl))
  t0 := Try.underlying0
  a0 := Try.isAgg0
  z0 := Try.sizeOf0
  v0 := Try.zeroValue0
  t3 := Try.underlying3
  a3 := Try.isAgg3
  z3 := Try.sizeOf3
  v3 := Try.zeroValue3
  t4 := Try.underlying4
  a4 := Try.isAgg4
  z4 := Try.sizeOf4
  v4 := Try.zeroValue4
  t22 := Try.underlying22
  a22 := Try.isAgg22
  z22 := Try.sizeOf22
  v22 := Try.zeroValue22
  i3 := by kernel_rfl }
open Go.RowKit Go.Lib Go.Sort in
/-- slices.Delete at []int, over an array. (LAID: no walk: one application.) -/
theorem Try.slices_Delete_int_arr (blk off cap i j : Nat) (d : Array Int) (w : World) (hH : Holds encI w blk off d) (hcap : d.size ≤ cap) (hm : cap ≤ 9223372036854775807) (hij : i ≤ j) (hj : j ≤ d.size) :
    Calls Try.prog 92 #[.slice (some ⟨blk, off, none⟩) d.size cap, .int .i64 i, .int .i64 j] w fun e w' => e = .returned (.slice (some ⟨blk, off, none⟩) (d.size - (j - i)) cap) ∧ ∃ q, w' = putRow encI (Sort.ahead w q) blk off (d.toList.take i ++ d.toList.drop j ++ List.replicate (j - i) 0).toArray := Any.slices_Delete_int_arr Try.laysNm223 blk off cap i j d w hH hcap hm hij hj
open Go.RowKit Go.Lib Go.Sort in
/-- slices.Delete at []int: "Delete modifies s in place by removing the elements s[i:j], and returns the modified slice. Delete panics if j > len(s) or s[i:j] is not a valid slice of s. Delete is O(len(s)-i), so if many items must be deleted, it is better to make a single call deleting them all together than to delete one at a time. Delete zeroes the elements s[len(s)-(j-i):len(s)]. If the result is empty, it has the same nilness as s.": FOR i ≤ j ≤ len(s) IT RETURNS THE SLICE CUT TO len(s) - (j - i) ELEMENTS; ITS CELLS HOLD what stood ahead of i, what stood from j on, then j - i zero values; all else is as it was, but for the count of draws. IN THE WORDS OF slices.Sort's CONTRACT ('Holds', 'putRow'). It asks 'zs.length ≤ cap ≤ 2^63 - 1' (every slice's). (Outside i ≤ j ≤ len(s) it panics: no contract here.) (LAID: no walk: one application.) -/
theorem Try.slices_Delete_int (blk off cap i j : Nat) (zs : List Int) (w : World) (hH : Holds (Value.int .i64) w blk off zs.toArray) (hcap : zs.length ≤ cap) (hm : cap ≤ 9223372036854775807) (hij : i ≤ j) (hj : j ≤ zs.length) :
    Calls Try.prog 92 #[.slice (some ⟨blk, off, none⟩) zs.length cap, .int .i64 i, .int .i64 j] w fun e w' => e = .returned (.slice (some ⟨blk, off, none⟩) (zs.length - (j - i)) cap) ∧ ∃ q, w' = putRow (Value.int .i64) (Sort.ahead w q) blk off (zs.take i ++ zs.drop j ++ List.replicate (j - i) 0).toArray := Any.slices_Delete_int Try.laysNm223 blk off cap i j zs w hH hcap hm hij hj
open Go.RowKit Go.Lib Go.Sort in
/-- slices.Delete at []int, of an argument, for i ≤ j ≤ n: the slice cut to n - (j - i) elements; the n cells hold what stood ahead of i, what stood from j on, then zeros. (LAID: no walk: one application.) -/
theorem Try.slices_Delete_int_cells (b off n c i j : Nat) (zs : List Int) (w : World) (hz : n ≤ zs.length) (hcap : n ≤ c) (hm : c ≤ 9223372036854775807) (hij : i ≤ j) (hj : j ≤ n) (hc : ∀ j, j < zs.length → w.cell? ⟨b, off + j, none⟩ = some (.int .i64 (zs.getD j 0))) (hf : ∀ j, j < n → w.frozen? ⟨b, off + j, none⟩ = false) :
    Calls Try.prog 92 #[.slice (some ⟨b, off, none⟩) n c, .int .i64 i, .int .i64 j] w fun e w' => e = .returned (.slice (some ⟨b, off, none⟩) (n - (j - i)) c) ∧ ∃ q, w' = (w.drewN q).setCells b off (((zs.take n).take i ++ (zs.take n).drop j ++ List.replicate (j - i) 0).map (Value.int .i64)) := Any.slices_Delete_int_cells Try.laysNm223 b off n c i j zs w hz hcap hm hij hj hc hf
end Go.Proofs
/- slices.Delete of one place of an own row of ints. Condition: the place lies in it. -/
namespace Go.Proofs.Ytgmchedfgdgenaa
open Go.RowKit

theorem del_any (A : Option Addr) (n c base i : Nat) (xs : List Int) (w : World) (h : OwnR (Value.int .i64) w base 3 A n c xs) (hi : i < n) :
    Calls Try.prog 92 #[.slice A n c, .int .i64 (i : Int), .int .i64 ((i : Int) + 1)] w fun e w' => e = .returned (.slice A (n - 1) c) ∧ OwnR (Value.int .i64) w' base 3 A (n - 1) c (xs.take i ++ xs.drop (i + 1)) ∧ Turn w w' (fun x => A = some ⟨x, 0, none⟩) := by
  have hl := h.length
  have hcn := h.cap
  have hc : c ≤ 9223372036854775807 := h.capmax
  obtain ⟨g, rest, rfl, hg, hr, hrest⟩ := h.row (by omega)
  have hd := Try.slices_Delete_int_cells g 0 n c i (i + 1) xs w (by omega) hcn hc (by omega) (by omega) (fun j hj => by
    rw [Nat.zero_add, hr.cell hj]
    simp [nth, List.getD]) (fun j hj => by rw [Nat.zero_add]; exact hr.frozen j)
  rw [show i + 1 - i = 1 by omega] at hd
  refine (show Calls Try.prog 92 #[.slice (some ⟨g, 0, none⟩) n c, .int .i64 (i : Int), .int .i64 ((i : Int) + 1)] w _ from hd).mono ?_
  rintro e w' ⟨rfl, q, rfl⟩
  have ht : xs.take n = xs := List.take_of_length_le (by omega)
  rw [ht]
  have hrow : RowC (w.drewN q) g 3 ([] ++ xs.map (Value.int .i64) ++ rest) := hr
  have h2 := RowC.setCells ((xs.take i ++ xs.drop (i + 1) ++ List.replicate 1 0).map (Value.int .i64)) (xs.map (Value.int .i64)) [] (w.drewN q) hrow (by simp; omega)
  refine ⟨rfl, ?_, ?_⟩
  · refine OwnR.of_row' (rest := [Value.int .i64 0] ++ rest) (show RowAt (Value.int .i64) _ g 3 _ _ from ?_) hg (by simp; omega) (by unfold maxLen; omega) (by simp; omega)
    unfold RowAt
    have h3 := h2
    unfold RowC at h3
    simpa using h3
  · have h4 := Turn.of_grown (grown_setCells (a := w.drewN q) (g := g) ((xs.take i ++ xs.drop (i + 1) ++ List.replicate 1 0).map (Value.int .i64)) 0 (w.drewN q) (show (w.drewN q).grownBy (w.drewN q) (some g) from ⟨rfl, rfl, rfl, Nat.le_refl _, fun _ _ _ => rfl⟩))
    exact ⟨h4.os, h4.tape, h4.output, h4.size, fun b hb hn => h4.block b hb (fun e => hn (by injection e with e; rw [e]))⟩
end Go.Proofs.Ytgmchedfgdgenaa
